/-
  The evaluator, its soundness, and the functions that several laws reach: what they compute, for all arguments; no conditions.
-/
import Derived.Test.YtoglnllbopcejaaPc
import Derived.KernelRfl
import Derived.Test.YtoglnllbopcejaaProg
set_option linter.unusedVariables false
namespace Go.Proofs.Ytoglnllbopcejaa
open Go Go.Ev
def roTab : List (Nat × List Nat) := [(3, [9, 11]), (4, [7, 12]), (5, [7, 9, 10, 11]), (6, [4, 9, 12, 15, 18, 20]), (7, [4]), (8, [1, 3]), (9, [4, 8, 11]), (10, [4, 8, 11, 15]), (12, [2, 4, 7]), (13, [4]), (15, [5, 7, 9, 10]), (17, [3, 6]), (19, [0]), (20, [10]), (21, [4, 5]), (23, [1, 2]), (28, [5]), (31, [1, 2]), (33, [4, 5, 7]), (34, [2, 4, 5, 6, 7, 9]), (39, [4]), (51, [9, 10, 11]), (53, [4, 6]), (54, [8]), (60, [4])]
def lookN : List (Nat × List Nat) → Nat → List Nat
  | [], _ => []
  | (k, l) :: r, f => cond (Nat.beq k f) l (lookN r f)
def ro (f : FuncId) (t : Nat) : Bool := !(lookN roTab f).any (Nat.beq t)
theorem mixed : Try.prog.follows .mixedOrders = true := by kernel_rfl
theorem names0 : (Try.prog.funcs.toList.all fun fn => !(fn.name == "runtime.NumGoroutine")) = true := by kernel_rfl
theorem names (f : FuncId) (fn : Func) (h : Try.prog.funcs[f]? = some fn) : (fn.name == "runtime.NumGoroutine") = false := by
  have := List.all_eq_true.1 names0 fn (Array.mem_toList_iff.2 (Array.mem_of_getElem? h))
  simpa using this
def S0 : Ev.Spec := fun _ _ _ => none
theorem S0_ok : SpecOK Try.prog S0 := fun _ _ _ _ _ _ h => by cases h
end Go.Proofs.Ytoglnllbopcejaa

set_option maxRecDepth 100000
set_option linter.unusedVariables false
namespace Go.Proofs.Ytoglnllbopcejaa
open Go Go.Ev
theorem WT_int {a : AV} {k : IntKind} (h : WT Try.prog (.int k) a) : ∃ n, a = .i k n ∧ k.min ≤ n ∧ n ≤ k.max := by
  cases h with
  | int h1 h2 => exact ⟨_, rfl, h1, h2⟩
theorem WT_sl {a : AV} {e : TypeId} (h : WT Try.prog (.sl e) a) : ∃ es, a = .rs e es ∧ es.length ≤ 9223372036854775807 ∧ (∀ x, x ∈ es → x.length = (cts Try.prog e).length) ∧ (∀ x, x ∈ es → ∀ j, j < x.length → WT Try.prog ((cts Try.prog e).getD j .oth) (x.getD j .u)) := by
  cases h with
  | sl h1 h2 h3 => exact ⟨_, rfl, h1, h2, h3⟩
theorem ty_agg {a : AV} {t : TypeId} {c : List CT} (hA : Ev.isAgg Try.prog t = true) (hc : cts Try.prog t = c) (h : TyArg Try.prog t a) : ∃ bs, a = .agg bs ∧ WTs Try.prog c bs := by
  rcases h with ⟨_, as1, rfl, h⟩ | ⟨h, _⟩
  · exact ⟨as1, rfl, hc ▸ h⟩
  · rw [hA] at h; cases h
theorem ty_one {a : AV} {t : TypeId} {c : CT} (hA : Ev.isAgg Try.prog t = false) (hc : (cts Try.prog t).headD .oth = c) (h : TyArg Try.prog t a) : WT Try.prog c a := by
  rcases h with ⟨h, _⟩ | ⟨_, h⟩
  · rw [hA] at h; cases h
  · exact hc ▸ h
theorem WTs_cons {c : CT} {cs : List CT} {bs : List AV} (h : WTs Try.prog (c :: cs) bs) : ∃ a r, bs = a :: r ∧ WT Try.prog c a ∧ WTs Try.prog cs r := by
  obtain ⟨h1, h2⟩ := h
  cases bs with
  | nil => simp at h1
  | cons a r =>
    refine ⟨a, r, rfl, by simpa using h2 0 (by simp), by simpa using h1, fun j hj => ?_⟩
    simpa using h2 (j + 1) (by simpa using hj)
theorem WTs_nil {bs : List AV} (h : WTs Try.prog [] bs) : bs = [] := by simpa using h.1
theorem tyArgs_cons {t : TypeId} {ts : List TypeId} {bs : List AV} (h : TyArgs Try.prog (t :: ts) bs) : ∃ a r, bs = a :: r ∧ TyArg Try.prog t a ∧ TyArgs Try.prog ts r := by
  cases bs with
  | nil => cases h
  | cons a r => exact ⟨a, r, rfl, h.1, h.2⟩
theorem tyArgs_nil {bs : List AV} (h : TyArgs Try.prog [] bs) : bs = [] := by
  cases bs with
  | nil => rfl
  | cons a r => cases h
end Go.Proofs.Ytoglnllbopcejaa

set_option maxRecDepth 100000
set_option maxHeartbeats 0
set_option linter.unusedVariables false
namespace Go.Proofs.Ytoglnllbopcejaa
open Go Go.Ev

noncomputable def c22 : Code := match Try.f22.body with | some c => c | _ => .skip
theorem lok22 : LOK Try.prog S0 (ro 22) (fun _ _ => none) 0 false c22 [] :=
  lok_lo (fun _ _ _ _ _ _ _ h _ => by cases h) c22 [] false (locate_nil _) (by kernel_rfl)
noncomputable def t22 (a b c : Int) : Tr ((Bool)) :=
  .cn (decide (b ≤ a)) (.lf (decide (a ≤ c))) (.lf (false))
noncomputable def g22 (a b c : Int) : Bool := (t22 a b c).g
noncomputable def w22_0 (a b c : Int) : Bool := (t22 a b c).val
theorem eq22 (a b c : Int) : evF Try.prog S0 (ro 22) (fun _ _ => none) Try.f22 [.i .i64 a, .i .i64 b, .i .i64 c] = (t22 a b c).opt (fun (x : (Bool)) => (.b x : AV)) := by kernel_rfl
theorem con22 (a b c : Int) (h : g22 a b c = true) : Con Try.prog 22 [.i .i64 a, .i .i64 b, .i .i64 c] [] (.b (w22_0 a b c)) [] :=
  con_of S0_ok mixed Try.func22 (c := c22) rfl (names 22 _ Try.func22) lok22 ((eq22 a b c).trans (Tr.sound _ _ h))
noncomputable def e22 (args : List AV) (rows : List Blk) : Option (Bool × AV × List Blk) := match args, rows with
  | [.i .i64 a, .i .i64 b, .i .i64 c], [] => some (g22 a b c, .b (w22_0 a b c), [])
  | _, _ => none
theorem e22_ok (args : List AV) (rows : List Blk) (pre : Bool) (v : AV) (rows' : List Blk) (h : e22 args rows = some (pre, v, rows')) (hp : pre = true) : Con Try.prog 22 args rows v rows' := by
  unfold e22 at h
  split at h
  · cases h; exact con22 _ _ _ hp
  · cases h
-- SPEC 22
end Go.Proofs.Ytoglnllbopcejaa

set_option maxRecDepth 100000
set_option maxHeartbeats 0
set_option linter.unusedVariables false
namespace Go.Proofs.Ytoglnllbopcejaa
open Go Go.Ev

noncomputable def c30 : Code := match Try.f30.body with | some c => c | _ => .skip
theorem lok30 : LOK Try.prog S0 (ro 30) (fun _ _ => none) 0 false c30 [] :=
  lok_lo (fun _ _ _ _ _ _ _ h _ => by cases h) c30 [] false (locate_nil _) (by kernel_rfl)
noncomputable def t30 (a b c : Int) : Tr ((Bool)) :=
  .cn (decide (a ≥ b)) (.lf (decide (a ≤ c))) (.lf (false))
noncomputable def g30 (a b c : Int) : Bool := (t30 a b c).g
noncomputable def w30_0 (a b c : Int) : Bool := (t30 a b c).val
theorem eq30 (a b c : Int) : evF Try.prog S0 (ro 30) (fun _ _ => none) Try.f30 [.i .i64 a, .i .i64 b, .i .i64 c] = (t30 a b c).opt (fun (x : (Bool)) => (.b x : AV)) := by kernel_rfl
theorem con30 (a b c : Int) (h : g30 a b c = true) : Con Try.prog 30 [.i .i64 a, .i .i64 b, .i .i64 c] [] (.b (w30_0 a b c)) [] :=
  con_of S0_ok mixed Try.func30 (c := c30) rfl (names 30 _ Try.func30) lok30 ((eq30 a b c).trans (Tr.sound _ _ h))
noncomputable def e30 (args : List AV) (rows : List Blk) : Option (Bool × AV × List Blk) := match args, rows with
  | [.i .i64 a, .i .i64 b, .i .i64 c], [] => some (g30 a b c, .b (w30_0 a b c), [])
  | _, _ => none
theorem e30_ok (args : List AV) (rows : List Blk) (pre : Bool) (v : AV) (rows' : List Blk) (h : e30 args rows = some (pre, v, rows')) (hp : pre = true) : Con Try.prog 30 args rows v rows' := by
  unfold e30 at h
  split at h
  · cases h; exact con30 _ _ _ hp
  · cases h
-- SPEC 30
end Go.Proofs.Ytoglnllbopcejaa

set_option maxRecDepth 100000
set_option maxHeartbeats 0
set_option linter.unusedVariables false
namespace Go.Proofs.Ytoglnllbopcejaa
open Go Go.Ev

noncomputable def c37 : Code := match Try.f37.body with | some c => c | _ => .skip
theorem lok37 : LOK Try.prog S0 (ro 37) (fun _ _ => none) 0 false c37 [] :=
  lok_lo (fun _ _ _ _ _ _ _ h _ => by cases h) c37 [] false (locate_nil _) (by kernel_rfl)
noncomputable def t37 (lo hi m : Int) : Tr ((Bool)) :=
  .cn (decide (0 ≤ lo)) (.cn (decide (lo ≤ hi)) (.lf (decide (hi ≤ m))) (.lf (false))) (.lf (false))
noncomputable def g37 (lo hi m : Int) : Bool := (t37 lo hi m).g
noncomputable def w37_0 (lo hi m : Int) : Bool := (t37 lo hi m).val
theorem eq37 (lo hi m : Int) : evF Try.prog S0 (ro 37) (fun _ _ => none) Try.f37 [.agg [.i .i64 lo, .i .i64 hi], .i .i64 m] = (t37 lo hi m).opt (fun (x : (Bool)) => (.b x : AV)) := by kernel_rfl
theorem con37 (lo hi m : Int) (h : g37 lo hi m = true) : Con Try.prog 37 [.agg [.i .i64 lo, .i .i64 hi], .i .i64 m] [] (.b (w37_0 lo hi m)) [] :=
  con_of S0_ok mixed Try.func37 (c := c37) rfl (names 37 _ Try.func37) lok37 ((eq37 lo hi m).trans (Tr.sound _ _ h))
noncomputable def e37 (args : List AV) (rows : List Blk) : Option (Bool × AV × List Blk) := match args, rows with
  | [.agg [.i .i64 lo, .i .i64 hi], .i .i64 m], [] => some (g37 lo hi m, .b (w37_0 lo hi m), [])
  | _, _ => none
theorem e37_ok (args : List AV) (rows : List Blk) (pre : Bool) (v : AV) (rows' : List Blk) (h : e37 args rows = some (pre, v, rows')) (hp : pre = true) : Con Try.prog 37 args rows v rows' := by
  unfold e37 at h
  split at h
  · cases h; exact con37 _ _ _ hp
  · cases h
-- SPEC 37
end Go.Proofs.Ytoglnllbopcejaa

set_option maxRecDepth 100000
set_option maxHeartbeats 0
set_option linter.unusedVariables false
namespace Go.Proofs.Ytoglnllbopcejaa
open Go Go.Ev

noncomputable def c52 : Code := match Try.f52.body with | some c => c | _ => .skip
theorem lok52 : LOK Try.prog S0 (ro 52) (fun _ _ => none) 0 false c52 [] :=
  lok_lo (fun _ _ _ _ _ _ _ h _ => by cases h) c52 [] false (locate_nil _) (by kernel_rfl)
noncomputable def t52 (lo hi m : Int) : Tr ((Bool)) :=
  .cn (decide (0 ≤ lo)) (.cn (decide (lo ≤ hi)) (.lf (decide (hi ≤ m))) (.lf (false))) (.lf (false))
noncomputable def g52 (lo hi m : Int) : Bool := (t52 lo hi m).g
noncomputable def w52_0 (lo hi m : Int) : Bool := (t52 lo hi m).val
theorem eq52 (lo hi m : Int) : evF Try.prog S0 (ro 52) (fun _ _ => none) Try.f52 [.agg [.i .i64 lo, .i .i64 hi], .i .i64 m] = (t52 lo hi m).opt (fun (x : (Bool)) => (.b x : AV)) := by kernel_rfl
theorem con52 (lo hi m : Int) (h : g52 lo hi m = true) : Con Try.prog 52 [.agg [.i .i64 lo, .i .i64 hi], .i .i64 m] [] (.b (w52_0 lo hi m)) [] :=
  con_of S0_ok mixed Try.func52 (c := c52) rfl (names 52 _ Try.func52) lok52 ((eq52 lo hi m).trans (Tr.sound _ _ h))
noncomputable def e52 (args : List AV) (rows : List Blk) : Option (Bool × AV × List Blk) := match args, rows with
  | [.agg [.i .i64 lo, .i .i64 hi], .i .i64 m], [] => some (g52 lo hi m, .b (w52_0 lo hi m), [])
  | _, _ => none
theorem e52_ok (args : List AV) (rows : List Blk) (pre : Bool) (v : AV) (rows' : List Blk) (h : e52 args rows = some (pre, v, rows')) (hp : pre = true) : Con Try.prog 52 args rows v rows' := by
  unfold e52 at h
  split at h
  · cases h; exact con52 _ _ _ hp
  · cases h
-- SPEC 52
end Go.Proofs.Ytoglnllbopcejaa

set_option maxRecDepth 100000
set_option maxHeartbeats 0
set_option linter.unusedVariables false
namespace Go.Proofs.Ytoglnllbopcejaa
open Go Go.Ev

noncomputable def c42 : Code := match Try.f42.body with | some c => c | _ => .skip
theorem lok42 : LOK Try.prog S0 (ro 42) (fun _ _ => none) 0 false c42 [] :=
  lok_lo (fun _ _ _ _ _ _ _ h _ => by cases h) c42 [] false (locate_nil _) (by kernel_rfl)
noncomputable def t42 (au av bu bv cu cv : Int) : Tr ((Int)) :=
  .lf (IntKind.i64.wrap (IntKind.i64.wrap (IntKind.i64.wrap (bu - au) * IntKind.i64.wrap (cv - av)) - IntKind.i64.wrap (IntKind.i64.wrap (bv - av) * IntKind.i64.wrap (cu - au))))
noncomputable def g42 (au av bu bv cu cv : Int) : Bool := (t42 au av bu bv cu cv).g
noncomputable def w42_0 (au av bu bv cu cv : Int) : Int := (t42 au av bu bv cu cv).val
theorem eq42 (au av bu bv cu cv : Int) : evF Try.prog S0 (ro 42) (fun _ _ => none) Try.f42 [.agg [.i .i64 au, .i .i64 av, .i .i64 bu, .i .i64 bv], .agg [.i .i64 cu, .i .i64 cv]] = (t42 au av bu bv cu cv).opt (fun (x : (Int)) => (.i .i64 x : AV)) := by kernel_rfl
theorem con42 (au av bu bv cu cv : Int) (h : g42 au av bu bv cu cv = true) : Con Try.prog 42 [.agg [.i .i64 au, .i .i64 av, .i .i64 bu, .i .i64 bv], .agg [.i .i64 cu, .i .i64 cv]] [] (.i .i64 (w42_0 au av bu bv cu cv)) [] :=
  con_of S0_ok mixed Try.func42 (c := c42) rfl (names 42 _ Try.func42) lok42 ((eq42 au av bu bv cu cv).trans (Tr.sound _ _ h))
noncomputable def e42 (args : List AV) (rows : List Blk) : Option (Bool × AV × List Blk) := match args, rows with
  | [.agg [.i .i64 au, .i .i64 av, .i .i64 bu, .i .i64 bv], .agg [.i .i64 cu, .i .i64 cv]], [] => some (g42 au av bu bv cu cv, .i .i64 (w42_0 au av bu bv cu cv), [])
  | _, _ => none
theorem e42_ok (args : List AV) (rows : List Blk) (pre : Bool) (v : AV) (rows' : List Blk) (h : e42 args rows = some (pre, v, rows')) (hp : pre = true) : Con Try.prog 42 args rows v rows' := by
  unfold e42 at h
  split at h
  · cases h; exact con42 _ _ _ _ _ _ hp
  · cases h
-- SPEC 42
end Go.Proofs.Ytoglnllbopcejaa

set_option maxRecDepth 100000
set_option maxHeartbeats 0
set_option linter.unusedVariables false
namespace Go.Proofs.Ytoglnllbopcejaa
open Go Go.Ev

noncomputable def c63 : Code := match Try.f63.body with | some c => c | _ => .skip
theorem lok63 : LOK Try.prog S0 (ro 63) (fun _ _ => none) 0 false c63 [] :=
  lok_lo (fun _ _ _ _ _ _ _ h _ => by cases h) c63 [] false (locate_nil _) (by kernel_rfl)
noncomputable def t63 (au av bu bv cu cv : Int) : Tr ((Int)) :=
  .lf (IntKind.i64.wrap (IntKind.i64.wrap (IntKind.i64.wrap (bu - au) * IntKind.i64.wrap (cv - av)) - IntKind.i64.wrap (IntKind.i64.wrap (bv - av) * IntKind.i64.wrap (cu - au))))
noncomputable def g63 (au av bu bv cu cv : Int) : Bool := (t63 au av bu bv cu cv).g
noncomputable def w63_0 (au av bu bv cu cv : Int) : Int := (t63 au av bu bv cu cv).val
theorem eq63 (au av bu bv cu cv : Int) : evF Try.prog S0 (ro 63) (fun _ _ => none) Try.f63 [.agg [.i .i64 au, .i .i64 av], .agg [.i .i64 bu, .i .i64 bv], .agg [.i .i64 cu, .i .i64 cv]] = (t63 au av bu bv cu cv).opt (fun (x : (Int)) => (.i .i64 x : AV)) := by kernel_rfl
theorem con63 (au av bu bv cu cv : Int) (h : g63 au av bu bv cu cv = true) : Con Try.prog 63 [.agg [.i .i64 au, .i .i64 av], .agg [.i .i64 bu, .i .i64 bv], .agg [.i .i64 cu, .i .i64 cv]] [] (.i .i64 (w63_0 au av bu bv cu cv)) [] :=
  con_of S0_ok mixed Try.func63 (c := c63) rfl (names 63 _ Try.func63) lok63 ((eq63 au av bu bv cu cv).trans (Tr.sound _ _ h))
noncomputable def e63 (args : List AV) (rows : List Blk) : Option (Bool × AV × List Blk) := match args, rows with
  | [.agg [.i .i64 au, .i .i64 av], .agg [.i .i64 bu, .i .i64 bv], .agg [.i .i64 cu, .i .i64 cv]], [] => some (g63 au av bu bv cu cv, .i .i64 (w63_0 au av bu bv cu cv), [])
  | _, _ => none
theorem e63_ok (args : List AV) (rows : List Blk) (pre : Bool) (v : AV) (rows' : List Blk) (h : e63 args rows = some (pre, v, rows')) (hp : pre = true) : Con Try.prog 63 args rows v rows' := by
  unfold e63 at h
  split at h
  · cases h; exact con63 _ _ _ _ _ _ hp
  · cases h
-- SPEC 63
end Go.Proofs.Ytoglnllbopcejaa

set_option maxRecDepth 100000
set_option maxHeartbeats 0
set_option linter.unusedVariables false
namespace Go.Proofs.Ytoglnllbopcejaa
open Go Go.Ev

noncomputable def c55 : Code := match Try.f55.body with | some c => c | _ => .skip
theorem lok55 : LOK Try.prog S0 (ro 55) (fun _ _ => none) 0 false c55 [] :=
  lok_lo (fun _ _ _ _ _ _ _ h _ => by cases h) c55 [] false (locate_nil _) (by kernel_rfl)
noncomputable def t55 (au av bu bv : Int) : Tr ((Int)) :=
  .lf (IntKind.i64.wrap (bmax (IntKind.i64.wrap (au - bu)) (IntKind.i64.wrap (bu - au)) + bmax (IntKind.i64.wrap (av - bv)) (IntKind.i64.wrap (bv - av))))
noncomputable def g55 (au av bu bv : Int) : Bool := (t55 au av bu bv).g
noncomputable def w55_0 (au av bu bv : Int) : Int := (t55 au av bu bv).val
theorem eq55 (au av bu bv : Int) : evF Try.prog S0 (ro 55) (fun _ _ => none) Try.f55 [.agg [.i .i64 au, .i .i64 av], .agg [.i .i64 bu, .i .i64 bv]] = (t55 au av bu bv).opt (fun (x : (Int)) => (.i .i64 x : AV)) := by kernel_rfl
theorem con55 (au av bu bv : Int) (h : g55 au av bu bv = true) : Con Try.prog 55 [.agg [.i .i64 au, .i .i64 av], .agg [.i .i64 bu, .i .i64 bv]] [] (.i .i64 (w55_0 au av bu bv)) [] :=
  con_of S0_ok mixed Try.func55 (c := c55) rfl (names 55 _ Try.func55) lok55 ((eq55 au av bu bv).trans (Tr.sound _ _ h))
noncomputable def e55 (args : List AV) (rows : List Blk) : Option (Bool × AV × List Blk) := match args, rows with
  | [.agg [.i .i64 au, .i .i64 av], .agg [.i .i64 bu, .i .i64 bv]], [] => some (g55 au av bu bv, .i .i64 (w55_0 au av bu bv), [])
  | _, _ => none
theorem e55_ok (args : List AV) (rows : List Blk) (pre : Bool) (v : AV) (rows' : List Blk) (h : e55 args rows = some (pre, v, rows')) (hp : pre = true) : Con Try.prog 55 args rows v rows' := by
  unfold e55 at h
  split at h
  · cases h; exact con55 _ _ _ _ hp
  · cases h
-- SPEC 55
end Go.Proofs.Ytoglnllbopcejaa

set_option maxRecDepth 100000
set_option maxHeartbeats 0
set_option linter.unusedVariables false
namespace Go.Proofs.Ytoglnllbopcejaa
open Go Go.Ev

noncomputable def c64 : Code := match Try.f64.body with | some c => c | _ => .skip
theorem lok64 : LOK Try.prog S0 (ro 64) (fun _ _ => none) 0 false c64 [] :=
  lok_lo (fun _ _ _ _ _ _ _ h _ => by cases h) c64 [] false (locate_nil _) (by kernel_rfl)
noncomputable def t64 (au av bu bv : Int) : Tr ((Int)) :=
  .lf (IntKind.i64.wrap (bmax (IntKind.i64.wrap (au - bu)) (IntKind.i64.wrap (bu - au)) + bmax (IntKind.i64.wrap (av - bv)) (IntKind.i64.wrap (bv - av))))
noncomputable def g64 (au av bu bv : Int) : Bool := (t64 au av bu bv).g
noncomputable def w64_0 (au av bu bv : Int) : Int := (t64 au av bu bv).val
theorem eq64 (au av bu bv : Int) : evF Try.prog S0 (ro 64) (fun _ _ => none) Try.f64 [.agg [.i .i64 au, .i .i64 av], .agg [.i .i64 bu, .i .i64 bv]] = (t64 au av bu bv).opt (fun (x : (Int)) => (.i .i64 x : AV)) := by kernel_rfl
theorem con64 (au av bu bv : Int) (h : g64 au av bu bv = true) : Con Try.prog 64 [.agg [.i .i64 au, .i .i64 av], .agg [.i .i64 bu, .i .i64 bv]] [] (.i .i64 (w64_0 au av bu bv)) [] :=
  con_of S0_ok mixed Try.func64 (c := c64) rfl (names 64 _ Try.func64) lok64 ((eq64 au av bu bv).trans (Tr.sound _ _ h))
noncomputable def e64 (args : List AV) (rows : List Blk) : Option (Bool × AV × List Blk) := match args, rows with
  | [.agg [.i .i64 au, .i .i64 av], .agg [.i .i64 bu, .i .i64 bv]], [] => some (g64 au av bu bv, .i .i64 (w64_0 au av bu bv), [])
  | _, _ => none
theorem e64_ok (args : List AV) (rows : List Blk) (pre : Bool) (v : AV) (rows' : List Blk) (h : e64 args rows = some (pre, v, rows')) (hp : pre = true) : Con Try.prog 64 args rows v rows' := by
  unfold e64 at h
  split at h
  · cases h; exact con64 _ _ _ _ hp
  · cases h
-- SPEC 64
end Go.Proofs.Ytoglnllbopcejaa

set_option maxRecDepth 100000
set_option maxHeartbeats 0
set_option linter.unusedVariables false
namespace Go.Proofs.Ytoglnllbopcejaa
open Go Go.Ev

noncomputable def c32 : Code := match Try.f32.body with | some c => c | _ => .skip
theorem lok32 : LOK Try.prog S0 (ro 32) (fun _ _ => none) 0 false c32 [] :=
  lok_lo (fun _ _ _ _ _ _ _ h _ => by cases h) c32 [] false (locate_nil _) (by kernel_rfl)
noncomputable def t32 (au av bu bv : Int) : Tr ((Bool)) :=
  .cn (decide (av > bv)) (.lf (true)) (.cn (av == bv) (.lf (decide (au > bu))) (.lf (false)))
noncomputable def g32 (au av bu bv : Int) : Bool := (t32 au av bu bv).g
noncomputable def w32_0 (au av bu bv : Int) : Bool := (t32 au av bu bv).val
theorem eq32 (au av bu bv : Int) : evF Try.prog S0 (ro 32) (fun _ _ => none) Try.f32 [.agg [.i .i64 au, .i .i64 av], .agg [.i .i64 bu, .i .i64 bv]] = (t32 au av bu bv).opt (fun (x : (Bool)) => (.b x : AV)) := by kernel_rfl
theorem con32 (au av bu bv : Int) (h : g32 au av bu bv = true) : Con Try.prog 32 [.agg [.i .i64 au, .i .i64 av], .agg [.i .i64 bu, .i .i64 bv]] [] (.b (w32_0 au av bu bv)) [] :=
  con_of S0_ok mixed Try.func32 (c := c32) rfl (names 32 _ Try.func32) lok32 ((eq32 au av bu bv).trans (Tr.sound _ _ h))
noncomputable def e32 (args : List AV) (rows : List Blk) : Option (Bool × AV × List Blk) := match args, rows with
  | [.agg [.i .i64 au, .i .i64 av], .agg [.i .i64 bu, .i .i64 bv]], [] => some (g32 au av bu bv, .b (w32_0 au av bu bv), [])
  | _, _ => none
theorem e32_ok (args : List AV) (rows : List Blk) (pre : Bool) (v : AV) (rows' : List Blk) (h : e32 args rows = some (pre, v, rows')) (hp : pre = true) : Con Try.prog 32 args rows v rows' := by
  unfold e32 at h
  split at h
  · cases h; exact con32 _ _ _ _ hp
  · cases h
-- SPEC 32
end Go.Proofs.Ytoglnllbopcejaa

set_option maxRecDepth 100000
set_option maxHeartbeats 0
set_option linter.unusedVariables false
namespace Go.Proofs.Ytoglnllbopcejaa
open Go Go.Ev

noncomputable def c38 : Code := match Try.f38.body with | some c => c | _ => .skip
theorem lok38 : LOK Try.prog S0 (ro 38) (fun _ _ => none) 0 false c38 [] :=
  lok_lo (fun _ _ _ _ _ _ _ h _ => by cases h) c38 [] false (locate_nil _) (by kernel_rfl)
noncomputable def t38 (au av bu bv : Int) : Tr ((Int)) :=
  .lf (IntKind.i64.wrap (bmax (IntKind.i64.wrap (au - bu)) (IntKind.i64.wrap (bu - au)) + bmax (IntKind.i64.wrap (av - bv)) (IntKind.i64.wrap (bv - av))))
noncomputable def g38 (au av bu bv : Int) : Bool := (t38 au av bu bv).g
noncomputable def w38_0 (au av bu bv : Int) : Int := (t38 au av bu bv).val
theorem eq38 (au av bu bv : Int) : evF Try.prog S0 (ro 38) (fun _ _ => none) Try.f38 [.agg [.i .i64 au, .i .i64 av], .agg [.i .i64 bu, .i .i64 bv]] = (t38 au av bu bv).opt (fun (x : (Int)) => (.i .i64 x : AV)) := by kernel_rfl
theorem con38 (au av bu bv : Int) (h : g38 au av bu bv = true) : Con Try.prog 38 [.agg [.i .i64 au, .i .i64 av], .agg [.i .i64 bu, .i .i64 bv]] [] (.i .i64 (w38_0 au av bu bv)) [] :=
  con_of S0_ok mixed Try.func38 (c := c38) rfl (names 38 _ Try.func38) lok38 ((eq38 au av bu bv).trans (Tr.sound _ _ h))
noncomputable def e38 (args : List AV) (rows : List Blk) : Option (Bool × AV × List Blk) := match args, rows with
  | [.agg [.i .i64 au, .i .i64 av], .agg [.i .i64 bu, .i .i64 bv]], [] => some (g38 au av bu bv, .i .i64 (w38_0 au av bu bv), [])
  | _, _ => none
theorem e38_ok (args : List AV) (rows : List Blk) (pre : Bool) (v : AV) (rows' : List Blk) (h : e38 args rows = some (pre, v, rows')) (hp : pre = true) : Con Try.prog 38 args rows v rows' := by
  unfold e38 at h
  split at h
  · cases h; exact con38 _ _ _ _ hp
  · cases h
-- SPEC 38
end Go.Proofs.Ytoglnllbopcejaa

set_option maxRecDepth 100000
set_option maxHeartbeats 0
set_option linter.unusedVariables false
namespace Go.Proofs.Ytoglnllbopcejaa
open Go Go.Ev

noncomputable def c61 : Code := match Try.f61.body with | some c => c | _ => .skip
theorem lok61 : LOK Try.prog S0 (ro 61) (fun _ _ => none) 0 false c61 [] :=
  lok_lo (fun _ _ _ _ _ _ _ h _ => by cases h) c61 [] false (locate_nil _) (by kernel_rfl)
noncomputable def t61 (x : Int) : Tr ((Bool)) :=
  .lf (x != x)
noncomputable def g61 (x : Int) : Bool := (t61 x).g
noncomputable def w61_0 (x : Int) : Bool := (t61 x).val
theorem eq61 (x : Int) : evF Try.prog S0 (ro 61) (fun _ _ => none) Try.f61 [.i .i64 x] = (t61 x).opt (fun (x : (Bool)) => (.b x : AV)) := by kernel_rfl
theorem con61 (x : Int) (h : g61 x = true) : Con Try.prog 61 [.i .i64 x] [] (.b (w61_0 x)) [] :=
  con_of S0_ok mixed Try.func61 (c := c61) rfl (names 61 _ Try.func61) lok61 ((eq61 x).trans (Tr.sound _ _ h))
noncomputable def e61 (args : List AV) (rows : List Blk) : Option (Bool × AV × List Blk) := match args, rows with
  | [.i .i64 x], [] => some (g61 x, .b (w61_0 x), [])
  | _, _ => none
theorem e61_ok (args : List AV) (rows : List Blk) (pre : Bool) (v : AV) (rows' : List Blk) (h : e61 args rows = some (pre, v, rows')) (hp : pre = true) : Con Try.prog 61 args rows v rows' := by
  unfold e61 at h
  split at h
  · cases h; exact con61 _ hp
  · cases h
-- SPEC 61
end Go.Proofs.Ytoglnllbopcejaa

set_option maxRecDepth 100000
set_option maxHeartbeats 0
set_option linter.unusedVariables false
namespace Go.Proofs.Ytoglnllbopcejaa
open Go Go.Ev

noncomputable def c18 : Code := match Try.f18.body with | some c => c | _ => .skip
theorem lok18 : LOK Try.prog S0 (ro 18) (fun _ _ => none) 0 false c18 [] :=
  lok_lo (fun _ _ _ _ _ _ _ h _ => by cases h) c18 [] false (locate_nil _) (by kernel_rfl)
noncomputable def t18 (n : Int) : Tr ((Bool)) :=
  .cn (decide (n < -9999999999)) (.lf (true)) (.lf (decide (n > 9999999999)))
noncomputable def g18 (n : Int) : Bool := (t18 n).g
noncomputable def w18_0 (n : Int) : Bool := (t18 n).val
theorem eq18 (n : Int) : evF Try.prog S0 (ro 18) (fun _ _ => none) Try.f18 [.i .i64 n] = (t18 n).opt (fun (x : (Bool)) => (.b x : AV)) := by kernel_rfl
theorem con18 (n : Int) (h : g18 n = true) : Con Try.prog 18 [.i .i64 n] [] (.b (w18_0 n)) [] :=
  con_of S0_ok mixed Try.func18 (c := c18) rfl (names 18 _ Try.func18) lok18 ((eq18 n).trans (Tr.sound _ _ h))
noncomputable def e18 (args : List AV) (rows : List Blk) : Option (Bool × AV × List Blk) := match args, rows with
  | [.i .i64 n], [] => some (g18 n, .b (w18_0 n), [])
  | _, _ => none
theorem e18_ok (args : List AV) (rows : List Blk) (pre : Bool) (v : AV) (rows' : List Blk) (h : e18 args rows = some (pre, v, rows')) (hp : pre = true) : Con Try.prog 18 args rows v rows' := by
  unfold e18 at h
  split at h
  · cases h; exact con18 _ hp
  · cases h
-- SPEC 18
end Go.Proofs.Ytoglnllbopcejaa

set_option maxRecDepth 100000
set_option maxHeartbeats 0
set_option linter.unusedVariables false
namespace Go.Proofs.Ytoglnllbopcejaa
open Go Go.Ev

noncomputable def c36 : Code := match Try.f36.body with | some c => c | _ => .skip
theorem lok36 : LOK Try.prog S0 (ro 36) (fun _ _ => none) 0 false c36 [] :=
  lok_lo (fun _ _ _ _ _ _ _ h _ => by cases h) c36 [] false (locate_nil _) (by kernel_rfl)
noncomputable def t36 (fu fv tu tv : Int) : Tr ((Bool)) :=
  .cn (decide (fu ≥ tu)) (.lf (true)) (.lf (decide (fv ≥ tv)))
noncomputable def g36 (fu fv tu tv : Int) : Bool := (t36 fu fv tu tv).g
noncomputable def w36_0 (fu fv tu tv : Int) : Bool := (t36 fu fv tu tv).val
theorem eq36 (fu fv tu tv : Int) : evF Try.prog S0 (ro 36) (fun _ _ => none) Try.f36 [.agg [.i .i64 fu, .i .i64 fv, .i .i64 tu, .i .i64 tv]] = (t36 fu fv tu tv).opt (fun (x : (Bool)) => (.b x : AV)) := by kernel_rfl
theorem con36 (fu fv tu tv : Int) (h : g36 fu fv tu tv = true) : Con Try.prog 36 [.agg [.i .i64 fu, .i .i64 fv, .i .i64 tu, .i .i64 tv]] [] (.b (w36_0 fu fv tu tv)) [] :=
  con_of S0_ok mixed Try.func36 (c := c36) rfl (names 36 _ Try.func36) lok36 ((eq36 fu fv tu tv).trans (Tr.sound _ _ h))
noncomputable def e36 (args : List AV) (rows : List Blk) : Option (Bool × AV × List Blk) := match args, rows with
  | [.agg [.i .i64 fu, .i .i64 fv, .i .i64 tu, .i .i64 tv]], [] => some (g36 fu fv tu tv, .b (w36_0 fu fv tu tv), [])
  | _, _ => none
theorem e36_ok (args : List AV) (rows : List Blk) (pre : Bool) (v : AV) (rows' : List Blk) (h : e36 args rows = some (pre, v, rows')) (hp : pre = true) : Con Try.prog 36 args rows v rows' := by
  unfold e36 at h
  split at h
  · cases h; exact con36 _ _ _ _ hp
  · cases h
-- SPEC 36
end Go.Proofs.Ytoglnllbopcejaa

set_option maxRecDepth 100000
set_option maxHeartbeats 0
set_option linter.unusedVariables false
namespace Go.Proofs.Ytoglnllbopcejaa
open Go Go.Ev

noncomputable def c43 : Code := match Try.f43.body with | some c => c | _ => .skip
theorem lok43 : LOK Try.prog S0 (ro 43) (fun _ _ => none) 0 false c43 [] :=
  lok_lo (fun _ _ _ _ _ _ _ h _ => by cases h) c43 [] false (locate_nil _) (by kernel_rfl)
noncomputable def t43 (fu fv tu tv u v : Int) : Tr ((Bool)) :=
  .cn (decide (fu < u)) (.cn (decide (u < tu)) (.cn (decide (fv < v)) (.lf (decide (v < tv))) (.lf (false))) (.lf (false))) (.lf (false))
noncomputable def g43 (fu fv tu tv u v : Int) : Bool := (t43 fu fv tu tv u v).g
noncomputable def w43_0 (fu fv tu tv u v : Int) : Bool := (t43 fu fv tu tv u v).val
theorem eq43 (fu fv tu tv u v : Int) : evF Try.prog S0 (ro 43) (fun _ _ => none) Try.f43 [.agg [.i .i64 fu, .i .i64 fv, .i .i64 tu, .i .i64 tv], .rp [.int .i64, .int .i64] [.i .i64 u, .i .i64 v] 0] = (t43 fu fv tu tv u v).opt (fun (x : (Bool)) => (.b x : AV)) := by kernel_rfl
theorem con43 (fu fv tu tv u v : Int) (h : g43 fu fv tu tv u v = true) : Con Try.prog 43 [.agg [.i .i64 fu, .i .i64 fv, .i .i64 tu, .i .i64 tv], .rp [.int .i64, .int .i64] [.i .i64 u, .i .i64 v] 0] [] (.b (w43_0 fu fv tu tv u v)) [] :=
  con_of S0_ok mixed Try.func43 (c := c43) rfl (names 43 _ Try.func43) lok43 ((eq43 fu fv tu tv u v).trans (Tr.sound _ _ h))
noncomputable def e43 (args : List AV) (rows : List Blk) : Option (Bool × AV × List Blk) := match args, rows with
  | [.agg [.i .i64 fu, .i .i64 fv, .i .i64 tu, .i .i64 tv], .rp [.int .i64, .int .i64] [.i .i64 u, .i .i64 v] 0], [] => some (g43 fu fv tu tv u v, .b (w43_0 fu fv tu tv u v), [])
  | _, _ => none
theorem e43_ok (args : List AV) (rows : List Blk) (pre : Bool) (v : AV) (rows' : List Blk) (h : e43 args rows = some (pre, v, rows')) (hp : pre = true) : Con Try.prog 43 args rows v rows' := by
  unfold e43 at h
  split at h
  · cases h; exact con43 _ _ _ _ _ _ hp
  · cases h
-- SPEC 43
end Go.Proofs.Ytoglnllbopcejaa

set_option maxRecDepth 100000
set_option maxHeartbeats 0
set_option linter.unusedVariables false
namespace Go.Proofs.Ytoglnllbopcejaa
open Go Go.Ev

noncomputable def c39 : Code := match Try.f39.body with | some c => c | _ => .skip
theorem lok39 : LOK Try.prog S0 (ro 39) (fun _ _ => none) 0 false c39 [] :=
  lok_lo (fun _ _ _ _ _ _ _ h _ => by cases h) c39 [] false (locate_nil _) (by kernel_rfl)
noncomputable def t39 (lo hi tl th : Int) : Tr ((Int) × (Int)) :=
  .lf (bmax (IntKind.i64.wrap (lo - th)) 0, bmax (IntKind.i64.wrap (hi - tl)) 0)
noncomputable def g39 (lo hi tl th : Int) : Bool := (t39 lo hi tl th).g
noncomputable def w39_0 (lo hi tl th : Int) : Int := (t39 lo hi tl th).val.1
noncomputable def w39_1 (lo hi tl th : Int) : Int := (t39 lo hi tl th).val.2
theorem eq39 (lo hi tl th : Int) : evF Try.prog S0 (ro 39) (fun _ _ => none) Try.f39 [.agg [.i .i64 lo, .i .i64 hi], .agg [.i .i64 tl, .i .i64 th]] = (t39 lo hi tl th).opt (fun (x : (Int) × (Int)) => (.agg [.i .i64 x.1, .i .i64 x.2] : AV)) := by kernel_rfl
theorem con39 (lo hi tl th : Int) (h : g39 lo hi tl th = true) : Con Try.prog 39 [.agg [.i .i64 lo, .i .i64 hi], .agg [.i .i64 tl, .i .i64 th]] [] (.agg [.i .i64 (w39_0 lo hi tl th), .i .i64 (w39_1 lo hi tl th)]) [] :=
  con_of S0_ok mixed Try.func39 (c := c39) rfl (names 39 _ Try.func39) lok39 ((eq39 lo hi tl th).trans (Tr.sound _ _ h))
noncomputable def e39 (args : List AV) (rows : List Blk) : Option (Bool × AV × List Blk) := match args, rows with
  | [.agg [.i .i64 lo, .i .i64 hi], .agg [.i .i64 tl, .i .i64 th]], [] => some (g39 lo hi tl th, .agg [.i .i64 (w39_0 lo hi tl th), .i .i64 (w39_1 lo hi tl th)], [])
  | _, _ => none
theorem e39_ok (args : List AV) (rows : List Blk) (pre : Bool) (v : AV) (rows' : List Blk) (h : e39 args rows = some (pre, v, rows')) (hp : pre = true) : Con Try.prog 39 args rows v rows' := by
  unfold e39 at h
  split at h
  · cases h; exact con39 _ _ _ _ hp
  · cases h
-- SPEC 39
end Go.Proofs.Ytoglnllbopcejaa

set_option maxRecDepth 100000
set_option maxHeartbeats 0
set_option linter.unusedVariables false
namespace Go.Proofs.Ytoglnllbopcejaa
open Go Go.Ev

noncomputable def c66 : Code := match Try.f66.body with | some c => c | _ => .skip
noncomputable def lp66a : Code := loopAt c66 [true, false, true, false]
noncomputable def s66a (os : List (List AV)) (u v t4 t7 t8 : Int) : St :=
  { t := [(0, .rs 32 os), (3, .rp [.int .i64, .int .i64] [.i .i64 u, .i .i64 v] 0), (4, .i .i64 t4), (7, .i .i64 t7), (8, .i .i64 t8)], m := [], nx := 0, nt := 19 }
structure S66a where
  t8 : Int
inductive T66a where
  | x0 (t4' : Int) (t8 : Int)
  | x1 (t8 : Int)
noncomputable def stp66a (os : List (List AV)) (u v t4 t7 t8 : Int) : Lp S66a T66a :=
  cond (decide (t8 < t7)) (cond (inb t8 os.length) (cond (u == fI (os.getD t8.toNat []) 0 && v == fI (os.getD t8.toNat []) 1) (.out (.x0 t8 t8)) (.go ⟨IntKind.i64.wrap (t8 + 1)⟩)) (.bad)) (.out (.x1 t8))
noncomputable def o66a_0 (os : List (List AV)) (u v t4 t7 t4' t8 : Int) : St :=
  { t := [(0, .rs 32 os), (3, .rp [.int .i64, .int .i64] [.i .i64 u, .i .i64 v] 0), (4, .i .i64 t4'), (7, .i .i64 t7), (8, .i .i64 t8)], m := [], nx := 0, nt := 19 }
noncomputable def o66a_1 (os : List (List AV)) (u v t4 t7 t8 : Int) : St :=
  { t := [(0, .rs 32 os), (3, .rp [.int .i64, .int .i64] [.i .i64 u, .i .i64 v] 0), (4, .i .i64 t4), (7, .i .i64 t7), (8, .i .i64 t8)], m := [], nx := 0, nt := 19 }
noncomputable def ou66a (os : List (List AV)) (u v t4 t7 : Int) : T66a → Ex × St
  | .x0 t4' t8 => (.ret, o66a_0 os u v t4 t7 t4' t8)
  | .x1 t8 => (.ext 0, o66a_1 os u v t4 t7 t8)
noncomputable def r66a (os : List (List AV)) (u v t4 t7 t8 : Int) : Option T66a := run (fun x => stp66a os u v t4 t7 x.t8) (⟨t8⟩ : S66a)
noncomputable def i66a_0 (os : List (List AV)) (u v t4 t7 t8 : Int) : Bool := match r66a os u v t4 t7 t8 with
  | some (.x0 _ _) => true
  | _ => false
noncomputable def v66a_0_t4' (os : List (List AV)) (u v t4 t7 t8 : Int) : Int := match r66a os u v t4 t7 t8 with
  | some (.x0 t4' _) => t4'
  | _ => default
noncomputable def v66a_0_t8 (os : List (List AV)) (u v t4 t7 t8 : Int) : Int := match r66a os u v t4 t7 t8 with
  | some (.x0 _ t8) => t8
  | _ => default
noncomputable def i66a_1 (os : List (List AV)) (u v t4 t7 t8 : Int) : Bool := match r66a os u v t4 t7 t8 with
  | some (.x1 _) => true
  | _ => false
noncomputable def v66a_1_t8 (os : List (List AV)) (u v t4 t7 t8 : Int) : Int := match r66a os u v t4 t7 t8 with
  | some (.x1 t8) => t8
  | _ => default
noncomputable def q66a (os : List (List AV)) (u v t4 t7 t8 : Int) : List (Bool × Ex × St) := [(i66a_0 os u v t4 t7 t8, .ret, o66a_0 os u v t4 t7 (v66a_0_t4' os u v t4 t7 t8) (v66a_0_t8 os u v t4 t7 t8)), (i66a_1 os u v t4 t7 t8, .ext 0, o66a_1 os u v t4 t7 (v66a_1_t8 os u v t4 t7 t8))]
noncomputable def l66a (st : St) : Option (List (Bool × Ex × St)) := qget [.rs 32, .rp [.int .i64, .int .i64] [.i .i64, .i .i64] 0, .i .i64, .i .i64, .i .i64] [] 0 19 (normW Try.prog [(0, none), (3, none), (4, none), (7, none), (8, none)] 0 st) fun ls => q66a (lLL ls 0) (lI ls 1) (lI ls 2) (lI ls 3) (lI ls 4) (lI ls 5)
noncomputable def L66 : LSpec := fun p st => match p with
  | [false, true, false, true] => l66a st
  | _ => none
theorem is66a_0 (os : List (List AV)) (u v t4 t7 t8 : Int) (h : i66a_0 os u v t4 t7 t8 = true) : r66a os u v t4 t7 t8 = some (.x0 (v66a_0_t4' os u v t4 t7 t8) (v66a_0_t8 os u v t4 t7 t8)) := by
  unfold i66a_0 at h
  unfold v66a_0_t4' v66a_0_t8
  generalize r66a os u v t4 t7 t8 = r at h ⊢
  rcases r with _ | y
  · cases h
  · cases y <;> first | rfl | cases h
theorem is66a_1 (os : List (List AV)) (u v t4 t7 t8 : Int) (h : i66a_1 os u v t4 t7 t8 = true) : r66a os u v t4 t7 t8 = some (.x1 (v66a_1_t8 os u v t4 t7 t8)) := by
  unfold i66a_1 at h
  unfold v66a_1_t8
  generalize r66a os u v t4 t7 t8 = r at h ⊢
  rcases r with _ | y
  · cases h
  · cases y <;> first | rfl | cases h
theorem round66a (os : List (List AV)) (u v t4 t7 t8 : Int) : round Try.prog S0 (ro 66) L66 lp66a [false, true, false, true] [(0, none), (3, none), (4, none), (7, none), (8, none)] 0 (s66a os u v t4 t7 t8) =
    cond (decide (t8 < t7)) (cond (inb t8 os.length) (cond (u == fI (os.getD t8.toNat []) 0 && v == fI (os.getD t8.toNat []) 1) (some (.ret, o66a_0 os u v t4 t7 t8 t8)) (some (.nrm, s66a os u v t4 t7 (IntKind.i64.wrap (t8 + 1))))) (none)) (some (.ext 0, o66a_1 os u v t4 t7 t8)) := by kernel_rfl
theorem rnd66a (os : List (List AV)) (u v t4 t7 : Int) (x : S66a) : round Try.prog S0 (ro 66) L66 lp66a [false, true, false, true] [(0, none), (3, none), (4, none), (7, none), (8, none)] 0 ((fun x => s66a os u v t4 t7 x.t8) x) = toR (fun x => s66a os u v t4 t7 x.t8) (ou66a os u v t4 t7) (stp66a os u v t4 t7 x.t8) := by
  refine (round66a _ _ _ _ _ _ ).trans ?_
  unfold stp66a
  simp only [toR_cond]
  rfl
theorem lokb66a (os : List (List AV)) (u v t4 t7 t8 : Int) {e : Ex} {s : St} (hch : Chosen (q66a os u v t4 t7 t8) e s) : LB Try.prog S0 (ro 66) L66 lp66a [false, true, false, true] [(0, none), (3, none), (4, none), (7, none), (8, none)] 0 (s66a os u v t4 t7 t8) e s := by
  unfold q66a at hch
  have main := fun y h => LB_run (x := (⟨t8⟩ : S66a)) (y := y) (nb := 0) (fun y => by cases y <;> simp [ou66a]) (rnd66a os u v t4 t7) h
  obtain ⟨x, hx, hg, rfl, rfl⟩ := chosen_any hch
  simp only [List.mem_cons, List.not_mem_nil, or_false] at hx
  rcases hx with rfl | rfl
  · exact main _ (is66a_0 os u v t4 t7 t8 hg)
  · exact main _ (is66a_1 os u v t4 t7 t8 hg)
theorem lok66a {st : St} {outs : List (Bool × Ex × St)} {e : Ex} {s : St} (hl : l66a st = some outs) (hch : Chosen outs e s) :
    ∃ keep nb, 0 ≤ nb ∧ LB Try.prog S0 (ro 66) L66 lp66a [false, true, false, true] keep nb st e s := by
  unfold l66a at hl
  obtain ⟨ls, hno, rfl⟩ := qget_some hl
  have hno := normW_norm hno
  refine ⟨_, _, ?_, .enterQ hno (s2 := s66a (lLL ls 0) (lI ls 1) (lI ls 2) (lI ls 3) (lI ls 4) (lI ls 5)) (by kernel_rfl) (lokb66a _ _ _ _ _ _ hch)⟩
  decide
theorem L66_ok (q : Pl) (c : Code) (hq : locate c66 q.reverse = some (.loop c)) (st : St) (outs : List (Bool × Ex × St)) (e : Ex) (s : St) (hl : L66 q st = some outs) (hch : Chosen outs e s) :
    ∃ keep nb, 0 ≤ nb ∧ LB Try.prog S0 (ro 66) L66 c q keep nb st e s := by
  unfold L66 at hl
  split at hl
  · have : locate c66 ([false, true, false, true] : Pl).reverse = some (.loop lp66a) := by kernel_rfl
    rw [this] at hq
    cases hq
    exact lok66a hl hch
  · cases hl
theorem lok66 : LOK Try.prog S0 (ro 66) L66 0 false c66 [] :=
  lok_lo L66_ok c66 [] false (locate_nil _) (by kernel_rfl)
noncomputable def t66 (os : List (List AV)) (u v : Int) : Tr ((Int)) :=
  .cn (i66a_0 os u v 0 (↑os.length : Int) 0) (.lf (v66a_0_t4' os u v 0 (↑os.length : Int) 0)) (.cn (i66a_1 os u v 0 (↑os.length : Int) 0) (.lf (-1)) (.nn))
noncomputable def g66 (os : List (List AV)) (u v : Int) : Bool := (t66 os u v).g
noncomputable def w66_0 (os : List (List AV)) (u v : Int) : Int := (t66 os u v).val
theorem eq66 (os : List (List AV)) (u v : Int) : evF Try.prog S0 (ro 66) L66 Try.f66 [.rs 32 os, .agg [.i .i64 u, .i .i64 v]] = (t66 os u v).opt (fun (x : (Int)) => (.i .i64 x : AV)) := by kernel_rfl
theorem con66 (os : List (List AV)) (u v : Int) (h : g66 os u v = true) : Con Try.prog 66 [.rs 32 os, .agg [.i .i64 u, .i .i64 v]] [] (.i .i64 (w66_0 os u v)) [] :=
  con_of S0_ok mixed Try.func66 (c := c66) rfl (names 66 _ Try.func66) lok66 ((eq66 os u v).trans (Tr.sound _ _ h))
noncomputable def e66 (args : List AV) (rows : List Blk) : Option (Bool × AV × List Blk) := match args, rows with
  | [.rs 32 os, .agg [.i .i64 u, .i .i64 v]], [] => some (g66 os u v, .i .i64 (w66_0 os u v), [])
  | _, _ => none
theorem e66_ok (args : List AV) (rows : List Blk) (pre : Bool) (v : AV) (rows' : List Blk) (h : e66 args rows = some (pre, v, rows')) (hp : pre = true) : Con Try.prog 66 args rows v rows' := by
  unfold e66 at h
  split at h
  · cases h; exact con66 _ _ _ hp
  · cases h
-- SPEC 66
end Go.Proofs.Ytoglnllbopcejaa

set_option maxRecDepth 100000
set_option maxHeartbeats 0
set_option linter.unusedVariables false
namespace Go.Proofs.Ytoglnllbopcejaa
open Go Go.Ev

noncomputable def c41 : Code := match Try.f41.body with | some c => c | _ => .skip
theorem lok41 : LOK Try.prog S0 (ro 41) (fun _ _ => none) 0 false c41 [] :=
  lok_lo (fun _ _ _ _ _ _ _ h _ => by cases h) c41 [] false (locate_nil _) (by kernel_rfl)
noncomputable def t41 (os : List (List AV)) : Tr ((List (List AV))) :=
  .lf (os)
noncomputable def g41 (os : List (List AV)) : Bool := (t41 os).g
noncomputable def w41_0 (os : List (List AV)) : List (List AV) := (t41 os).val
theorem eq41 (os : List (List AV)) : evF Try.prog S0 (ro 41) (fun _ _ => none) Try.f41 [.rs 32 os] = (t41 os).opt (fun (x : (List (List AV))) => (.fn 60 [.rp [.sl 32] [.rs 32 x] 0] : AV)) := by kernel_rfl
theorem con41 (os : List (List AV)) (h : g41 os = true) : Con Try.prog 41 [.rs 32 os] [] (.fn 60 [.rp [.sl 32] [.rs 32 (w41_0 os)] 0]) [] :=
  con_of S0_ok mixed Try.func41 (c := c41) rfl (names 41 _ Try.func41) lok41 ((eq41 os).trans (Tr.sound _ _ h))
noncomputable def e41 (args : List AV) (rows : List Blk) : Option (Bool × AV × List Blk) := match args, rows with
  | [.rs 32 os], [] => some (g41 os, .fn 60 [.rp [.sl 32] [.rs 32 (w41_0 os)] 0], [])
  | _, _ => none
theorem e41_ok (args : List AV) (rows : List Blk) (pre : Bool) (v : AV) (rows' : List Blk) (h : e41 args rows = some (pre, v, rows')) (hp : pre = true) : Con Try.prog 41 args rows v rows' := by
  unfold e41 at h
  split at h
  · cases h; exact con41 _ hp
  · cases h
-- SPEC 41
end Go.Proofs.Ytoglnllbopcejaa

set_option maxRecDepth 100000
set_option maxHeartbeats 0
set_option linter.unusedVariables false
namespace Go.Proofs.Ytoglnllbopcejaa
open Go Go.Ev

noncomputable def c47 : Code := match Try.f47.body with | some c => c | _ => .skip
noncomputable def lp47a : Code := loopAt c47 [true, true, false, true, false]
noncomputable def s47a (t2 t3 : Int) (t6 : List (List AV)) (t7 t8 : Int) : St :=
  { t := [(2, .i .i64 t2), (3, .i .i64 t3), (6, .rs 3 t6), (7, .i .i64 t7), (8, .i .i64 t8)], m := [], nx := 0, nt := 18 }
structure S47a where
  t8 : Int
inductive T47a where
  | x0 (t2' : Int) (t8 : Int)
  | x1 (t8 : Int)
noncomputable def stp47a (t2 t3 : Int) (t6 : List (List AV)) (t7 t8 : Int) : Lp S47a T47a :=
  cond (decide (t8 < t7)) (cond (inb t8 t6.length) (cond (fI (t6.getD t8.toNat []) 0 != t3) (.out (.x0 (fI (t6.getD t8.toNat []) 0) t8)) (.go ⟨IntKind.i64.wrap (t8 + 1)⟩)) (.bad)) (.out (.x1 t8))
noncomputable def o47a_0 (t2 t3 : Int) (t6 : List (List AV)) (t7 t2' t8 : Int) : St :=
  { t := [(2, .i .i64 t2'), (3, .i .i64 t3), (6, .rs 3 t6), (7, .i .i64 t7), (8, .i .i64 t8)], m := [], nx := 0, nt := 18 }
noncomputable def o47a_1 (t2 t3 : Int) (t6 : List (List AV)) (t7 t8 : Int) : St :=
  { t := [(2, .i .i64 t2), (3, .i .i64 t3), (6, .rs 3 t6), (7, .i .i64 t7), (8, .i .i64 t8)], m := [], nx := 0, nt := 18 }
noncomputable def ou47a (t2 t3 : Int) (t6 : List (List AV)) (t7 : Int) : T47a → Ex × St
  | .x0 t2' t8 => (.ret, o47a_0 t2 t3 t6 t7 t2' t8)
  | .x1 t8 => (.ext 0, o47a_1 t2 t3 t6 t7 t8)
noncomputable def r47a (t2 t3 : Int) (t6 : List (List AV)) (t7 t8 : Int) : Option T47a := run (fun x => stp47a t2 t3 t6 t7 x.t8) (⟨t8⟩ : S47a)
noncomputable def i47a_0 (t2 t3 : Int) (t6 : List (List AV)) (t7 t8 : Int) : Bool := match r47a t2 t3 t6 t7 t8 with
  | some (.x0 _ _) => true
  | _ => false
noncomputable def v47a_0_t2' (t2 t3 : Int) (t6 : List (List AV)) (t7 t8 : Int) : Int := match r47a t2 t3 t6 t7 t8 with
  | some (.x0 t2' _) => t2'
  | _ => default
noncomputable def v47a_0_t8 (t2 t3 : Int) (t6 : List (List AV)) (t7 t8 : Int) : Int := match r47a t2 t3 t6 t7 t8 with
  | some (.x0 _ t8) => t8
  | _ => default
noncomputable def i47a_1 (t2 t3 : Int) (t6 : List (List AV)) (t7 t8 : Int) : Bool := match r47a t2 t3 t6 t7 t8 with
  | some (.x1 _) => true
  | _ => false
noncomputable def v47a_1_t8 (t2 t3 : Int) (t6 : List (List AV)) (t7 t8 : Int) : Int := match r47a t2 t3 t6 t7 t8 with
  | some (.x1 t8) => t8
  | _ => default
noncomputable def q47a (t2 t3 : Int) (t6 : List (List AV)) (t7 t8 : Int) : List (Bool × Ex × St) := [(i47a_0 t2 t3 t6 t7 t8, .ret, o47a_0 t2 t3 t6 t7 (v47a_0_t2' t2 t3 t6 t7 t8) (v47a_0_t8 t2 t3 t6 t7 t8)), (i47a_1 t2 t3 t6 t7 t8, .ext 0, o47a_1 t2 t3 t6 t7 (v47a_1_t8 t2 t3 t6 t7 t8))]
noncomputable def l47a (st : St) : Option (List (Bool × Ex × St)) := qget [.i .i64, .i .i64, .rs 3, .i .i64, .i .i64] [] 0 18 (normW Try.prog [(2, none), (3, none), (6, none), (7, none), (8, none)] 0 st) fun ls => q47a (lI ls 0) (lI ls 1) (lLL ls 2) (lI ls 3) (lI ls 4)
noncomputable def L47 : LSpec := fun p st => match p with
  | [false, true, false, true, true] => l47a st
  | _ => none
theorem is47a_0 (t2 t3 : Int) (t6 : List (List AV)) (t7 t8 : Int) (h : i47a_0 t2 t3 t6 t7 t8 = true) : r47a t2 t3 t6 t7 t8 = some (.x0 (v47a_0_t2' t2 t3 t6 t7 t8) (v47a_0_t8 t2 t3 t6 t7 t8)) := by
  unfold i47a_0 at h
  unfold v47a_0_t2' v47a_0_t8
  generalize r47a t2 t3 t6 t7 t8 = r at h ⊢
  rcases r with _ | y
  · cases h
  · cases y <;> first | rfl | cases h
theorem is47a_1 (t2 t3 : Int) (t6 : List (List AV)) (t7 t8 : Int) (h : i47a_1 t2 t3 t6 t7 t8 = true) : r47a t2 t3 t6 t7 t8 = some (.x1 (v47a_1_t8 t2 t3 t6 t7 t8)) := by
  unfold i47a_1 at h
  unfold v47a_1_t8
  generalize r47a t2 t3 t6 t7 t8 = r at h ⊢
  rcases r with _ | y
  · cases h
  · cases y <;> first | rfl | cases h
theorem round47a (t2 t3 : Int) (t6 : List (List AV)) (t7 t8 : Int) : round Try.prog S0 (ro 47) L47 lp47a [false, true, false, true, true] [(2, none), (3, none), (6, none), (7, none), (8, none)] 0 (s47a t2 t3 t6 t7 t8) =
    cond (decide (t8 < t7)) (cond (inb t8 t6.length) (cond (fI (t6.getD t8.toNat []) 0 != t3) (some (.ret, o47a_0 t2 t3 t6 t7 (fI (t6.getD t8.toNat []) 0) t8)) (some (.nrm, s47a t2 t3 t6 t7 (IntKind.i64.wrap (t8 + 1))))) (none)) (some (.ext 0, o47a_1 t2 t3 t6 t7 t8)) := by kernel_rfl
theorem rnd47a (t2 t3 : Int) (t6 : List (List AV)) (t7 : Int) (x : S47a) : round Try.prog S0 (ro 47) L47 lp47a [false, true, false, true, true] [(2, none), (3, none), (6, none), (7, none), (8, none)] 0 ((fun x => s47a t2 t3 t6 t7 x.t8) x) = toR (fun x => s47a t2 t3 t6 t7 x.t8) (ou47a t2 t3 t6 t7) (stp47a t2 t3 t6 t7 x.t8) := by
  refine (round47a _ _ _ _ _ ).trans ?_
  unfold stp47a
  simp only [toR_cond]
  rfl
theorem lokb47a (t2 t3 : Int) (t6 : List (List AV)) (t7 t8 : Int) {e : Ex} {s : St} (hch : Chosen (q47a t2 t3 t6 t7 t8) e s) : LB Try.prog S0 (ro 47) L47 lp47a [false, true, false, true, true] [(2, none), (3, none), (6, none), (7, none), (8, none)] 0 (s47a t2 t3 t6 t7 t8) e s := by
  unfold q47a at hch
  have main := fun y h => LB_run (x := (⟨t8⟩ : S47a)) (y := y) (nb := 0) (fun y => by cases y <;> simp [ou47a]) (rnd47a t2 t3 t6 t7) h
  obtain ⟨x, hx, hg, rfl, rfl⟩ := chosen_any hch
  simp only [List.mem_cons, List.not_mem_nil, or_false] at hx
  rcases hx with rfl | rfl
  · exact main _ (is47a_0 t2 t3 t6 t7 t8 hg)
  · exact main _ (is47a_1 t2 t3 t6 t7 t8 hg)
theorem lok47a {st : St} {outs : List (Bool × Ex × St)} {e : Ex} {s : St} (hl : l47a st = some outs) (hch : Chosen outs e s) :
    ∃ keep nb, 0 ≤ nb ∧ LB Try.prog S0 (ro 47) L47 lp47a [false, true, false, true, true] keep nb st e s := by
  unfold l47a at hl
  obtain ⟨ls, hno, rfl⟩ := qget_some hl
  have hno := normW_norm hno
  refine ⟨_, _, ?_, .enterQ hno (s2 := s47a (lI ls 0) (lI ls 1) (lLL ls 2) (lI ls 3) (lI ls 4)) (by kernel_rfl) (lokb47a _ _ _ _ _ hch)⟩
  decide
theorem L47_ok (q : Pl) (c : Code) (hq : locate c47 q.reverse = some (.loop c)) (st : St) (outs : List (Bool × Ex × St)) (e : Ex) (s : St) (hl : L47 q st = some outs) (hch : Chosen outs e s) :
    ∃ keep nb, 0 ≤ nb ∧ LB Try.prog S0 (ro 47) L47 c q keep nb st e s := by
  unfold L47 at hl
  split at hl
  · have : locate c47 ([false, true, false, true, true] : Pl).reverse = some (.loop lp47a) := by kernel_rfl
    rw [this] at hq
    cases hq
    exact lok47a hl hch
  · cases hl
theorem lok47 : LOK Try.prog S0 (ro 47) L47 0 false c47 [] :=
  lok_lo L47_ok c47 [] false (locate_nil _) (by kernel_rfl)
noncomputable def t47 (a b : Int) : Tr ((Int)) :=
  .cn (i47a_0 0 0 [[AV.i IntKind.i64 a], [AV.i IntKind.i64 b]] (↑[[AV.i IntKind.i64 a], [AV.i IntKind.i64 b]].length : Int) 0) (.lf (v47a_0_t2' 0 0 [[AV.i IntKind.i64 a], [AV.i IntKind.i64 b]] (↑[[AV.i IntKind.i64 a], [AV.i IntKind.i64 b]].length : Int) 0)) (.cn (i47a_1 0 0 [[AV.i IntKind.i64 a], [AV.i IntKind.i64 b]] (↑[[AV.i IntKind.i64 a], [AV.i IntKind.i64 b]].length : Int) 0) (.lf (0)) (.nn))
noncomputable def g47 (a b : Int) : Bool := (t47 a b).g
noncomputable def w47_0 (a b : Int) : Int := (t47 a b).val
theorem eq47 (a b : Int) : evF Try.prog S0 (ro 47) L47 Try.f47 [.rs 3 [[.i .i64 a], [.i .i64 b]]] = (t47 a b).opt (fun (x : (Int)) => (.i .i64 x : AV)) := by kernel_rfl
theorem con47 (a b : Int) (h : g47 a b = true) : Con Try.prog 47 [.rs 3 [[.i .i64 a], [.i .i64 b]]] [] (.i .i64 (w47_0 a b)) [] :=
  con_of S0_ok mixed Try.func47 (c := c47) rfl (names 47 _ Try.func47) lok47 ((eq47 a b).trans (Tr.sound _ _ h))
noncomputable def e47 (args : List AV) (rows : List Blk) : Option (Bool × AV × List Blk) := match args, rows with
  | [.rs 3 [[.i .i64 a], [.i .i64 b]]], [] => some (g47 a b, .i .i64 (w47_0 a b), [])
  | _, _ => none
theorem e47_ok (args : List AV) (rows : List Blk) (pre : Bool) (v : AV) (rows' : List Blk) (h : e47 args rows = some (pre, v, rows')) (hp : pre = true) : Con Try.prog 47 args rows v rows' := by
  unfold e47 at h
  split at h
  · cases h; exact con47 _ _ hp
  · cases h
-- SPEC 47
end Go.Proofs.Ytoglnllbopcejaa

set_option maxRecDepth 100000
set_option linter.unusedVariables false
namespace Go.Proofs.Ytoglnllbopcejaa
open Go Go.Ev
noncomputable def SW1 : Ev.Spec := insS 47 e47 (insS 41 e41 (insS 66 e66 (insS 39 e39 (insS 43 e43 (insS 36 e36 (insS 18 e18 (insS 61 e61 (insS 42 e42 (insS 63 e63 (insS 32 e32 (insS 64 e64 (insS 55 e55 (insS 38 e38 (insS 52 e52 (insS 37 e37 (insS 30 e30 (insS 22 e22 (S0))))))))))))))))))
theorem SW1_ok : SpecOK Try.prog SW1 := insS_ok e47_ok (insS_ok e41_ok (insS_ok e66_ok (insS_ok e39_ok (insS_ok e43_ok (insS_ok e36_ok (insS_ok e18_ok (insS_ok e61_ok (insS_ok e42_ok (insS_ok e63_ok (insS_ok e32_ok (insS_ok e64_ok (insS_ok e55_ok (insS_ok e38_ok (insS_ok e52_ok (insS_ok e37_ok (insS_ok e30_ok (insS_ok e22_ok (S0_ok))))))))))))))))))
end Go.Proofs.Ytoglnllbopcejaa

set_option maxRecDepth 100000
set_option maxHeartbeats 0
set_option linter.unusedVariables false
namespace Go.Proofs.Ytoglnllbopcejaa
open Go Go.Ev

noncomputable def c48 : Code := match Try.f48.body with | some c => c | _ => .skip
theorem lok48 : LOK Try.prog SW1 (ro 48) (fun _ _ => none) 0 false c48 [] :=
  lok_lo (fun _ _ _ _ _ _ _ h _ => by cases h) c48 [] false (locate_nil _) (by kernel_rfl)
noncomputable def t48 (x y : Int) : Tr ((Int)) :=
  .cn (w61_0 x) (.cn (w61_0 y) (.lf (0)) (.lf (-1))) (.cn (w61_0 y) (.lf (1)) (.cn (decide (x < y)) (.lf (-1)) (.cn (decide (x > y)) (.lf (1)) (.lf (0)))))
noncomputable def g48 (x y : Int) : Bool := (t48 x y).g
noncomputable def w48_0 (x y : Int) : Int := (t48 x y).val
theorem eq48 (x y : Int) : evF Try.prog SW1 (ro 48) (fun _ _ => none) Try.f48 [.i .i64 x, .i .i64 y] = (t48 x y).opt (fun (x : (Int)) => (.i .i64 x : AV)) := by kernel_rfl
theorem con48 (x y : Int) (h : g48 x y = true) : Con Try.prog 48 [.i .i64 x, .i .i64 y] [] (.i .i64 (w48_0 x y)) [] :=
  con_of SW1_ok mixed Try.func48 (c := c48) rfl (names 48 _ Try.func48) lok48 ((eq48 x y).trans (Tr.sound _ _ h))
noncomputable def e48 (args : List AV) (rows : List Blk) : Option (Bool × AV × List Blk) := match args, rows with
  | [.i .i64 x, .i .i64 y], [] => some (g48 x y, .i .i64 (w48_0 x y), [])
  | _, _ => none
theorem e48_ok (args : List AV) (rows : List Blk) (pre : Bool) (v : AV) (rows' : List Blk) (h : e48 args rows = some (pre, v, rows')) (hp : pre = true) : Con Try.prog 48 args rows v rows' := by
  unfold e48 at h
  split at h
  · cases h; exact con48 _ _ hp
  · cases h
-- SPEC 48
end Go.Proofs.Ytoglnllbopcejaa

set_option maxRecDepth 100000
set_option maxHeartbeats 0
set_option linter.unusedVariables false
namespace Go.Proofs.Ytoglnllbopcejaa
open Go Go.Ev

noncomputable def c40 : Code := match Try.f40.body with | some c => c | _ => .skip
theorem lok40 : LOK Try.prog SW1 (ro 40) (fun _ _ => none) 0 false c40 [] :=
  lok_lo (fun _ _ _ _ _ _ _ h _ => by cases h) c40 [] false (locate_nil _) (by kernel_rfl)
noncomputable def t40 (u v : Int) : Tr ((Bool)) :=
  .cn (g22 u 0 400) (.cn (w22_0 u 0 400) (.cn (g22 v 0 400) (.lf (w22_0 v 0 400)) (.nn)) (.lf (false))) (.nn)
noncomputable def g40 (u v : Int) : Bool := (t40 u v).g
noncomputable def w40_0 (u v : Int) : Bool := (t40 u v).val
theorem eq40 (u v : Int) : evF Try.prog SW1 (ro 40) (fun _ _ => none) Try.f40 [.agg [.i .i64 u, .i .i64 v]] = (t40 u v).opt (fun (x : (Bool)) => (.b x : AV)) := by kernel_rfl
theorem con40 (u v : Int) (h : g40 u v = true) : Con Try.prog 40 [.agg [.i .i64 u, .i .i64 v]] [] (.b (w40_0 u v)) [] :=
  con_of SW1_ok mixed Try.func40 (c := c40) rfl (names 40 _ Try.func40) lok40 ((eq40 u v).trans (Tr.sound _ _ h))
noncomputable def e40 (args : List AV) (rows : List Blk) : Option (Bool × AV × List Blk) := match args, rows with
  | [.agg [.i .i64 u, .i .i64 v]], [] => some (g40 u v, .b (w40_0 u v), [])
  | _, _ => none
theorem e40_ok (args : List AV) (rows : List Blk) (pre : Bool) (v : AV) (rows' : List Blk) (h : e40 args rows = some (pre, v, rows')) (hp : pre = true) : Con Try.prog 40 args rows v rows' := by
  unfold e40 at h
  split at h
  · cases h; exact con40 _ _ hp
  · cases h
-- SPEC 40
end Go.Proofs.Ytoglnllbopcejaa

set_option maxRecDepth 100000
set_option maxHeartbeats 0
set_option linter.unusedVariables false
namespace Go.Proofs.Ytoglnllbopcejaa
open Go Go.Ev

noncomputable def c58 : Code := match Try.f58.body with | some c => c | _ => .skip
theorem lok58 : LOK Try.prog SW1 (ro 58) (fun _ _ => none) 0 false c58 [] :=
  lok_lo (fun _ _ _ _ _ _ _ h _ => by cases h) c58 [] false (locate_nil _) (by kernel_rfl)
noncomputable def t58 (os : List (List AV)) (u v : Int) : Tr ((Bool)) :=
  .cn (g66 os u v) (.lf (decide (w66_0 os u v ≥ 0))) (.nn)
noncomputable def g58 (os : List (List AV)) (u v : Int) : Bool := (t58 os u v).g
noncomputable def w58_0 (os : List (List AV)) (u v : Int) : Bool := (t58 os u v).val
theorem eq58 (os : List (List AV)) (u v : Int) : evF Try.prog SW1 (ro 58) (fun _ _ => none) Try.f58 [.rs 32 os, .agg [.i .i64 u, .i .i64 v]] = (t58 os u v).opt (fun (x : (Bool)) => (.b x : AV)) := by kernel_rfl
theorem con58 (os : List (List AV)) (u v : Int) (h : g58 os u v = true) : Con Try.prog 58 [.rs 32 os, .agg [.i .i64 u, .i .i64 v]] [] (.b (w58_0 os u v)) [] :=
  con_of SW1_ok mixed Try.func58 (c := c58) rfl (names 58 _ Try.func58) lok58 ((eq58 os u v).trans (Tr.sound _ _ h))
noncomputable def e58 (args : List AV) (rows : List Blk) : Option (Bool × AV × List Blk) := match args, rows with
  | [.rs 32 os, .agg [.i .i64 u, .i .i64 v]], [] => some (g58 os u v, .b (w58_0 os u v), [])
  | _, _ => none
theorem e58_ok (args : List AV) (rows : List Blk) (pre : Bool) (v : AV) (rows' : List Blk) (h : e58 args rows = some (pre, v, rows')) (hp : pre = true) : Con Try.prog 58 args rows v rows' := by
  unfold e58 at h
  split at h
  · cases h; exact con58 _ _ _ hp
  · cases h
-- SPEC 58
end Go.Proofs.Ytoglnllbopcejaa

set_option maxRecDepth 100000
set_option maxHeartbeats 0
set_option linter.unusedVariables false
namespace Go.Proofs.Ytoglnllbopcejaa
open Go Go.Ev

noncomputable def c59a : Code := match Try.f59.body with | some c => c | _ => .skip
noncomputable def lp59aa : Code := loopAt c59a [true, false, true, false]
noncomputable def s59aa (hs : List (List AV)) (t4 t7 t8 : Int) : St :=
  { t := [(0, .rs 55 hs), (1, .fn 36 []), (4, .i .i64 t4), (7, .i .i64 t7), (8, .i .i64 t8)], m := [], nx := 0, nt := 19 }
structure S59aa where
  t8 : Int
inductive T59aa where
  | x0 (t4' : Int) (t8 : Int)
  | x1 (t8 : Int)
noncomputable def stp59aa (hs : List (List AV)) (t4 t7 t8 : Int) : Lp S59aa T59aa :=
  cond (decide (t8 < t7)) (cond (inb t8 hs.length) (cond (g36 (fI (hs.getD t8.toNat []) 0) (fI (hs.getD t8.toNat []) 1) (fI (hs.getD t8.toNat []) 2) (fI (hs.getD t8.toNat []) 3)) (cond (w36_0 (fI (hs.getD t8.toNat []) 0) (fI (hs.getD t8.toNat []) 1) (fI (hs.getD t8.toNat []) 2) (fI (hs.getD t8.toNat []) 3)) (.out (.x0 t8 t8)) (.go ⟨IntKind.i64.wrap (t8 + 1)⟩)) (.bad)) (.bad)) (.out (.x1 t8))
noncomputable def o59aa_0 (hs : List (List AV)) (t4 t7 t4' t8 : Int) : St :=
  { t := [(0, .rs 55 hs), (1, .fn 36 []), (4, .i .i64 t4'), (7, .i .i64 t7), (8, .i .i64 t8)], m := [], nx := 0, nt := 19 }
noncomputable def o59aa_1 (hs : List (List AV)) (t4 t7 t8 : Int) : St :=
  { t := [(0, .rs 55 hs), (1, .fn 36 []), (4, .i .i64 t4), (7, .i .i64 t7), (8, .i .i64 t8)], m := [], nx := 0, nt := 19 }
noncomputable def ou59aa (hs : List (List AV)) (t4 t7 : Int) : T59aa → Ex × St
  | .x0 t4' t8 => (.ret, o59aa_0 hs t4 t7 t4' t8)
  | .x1 t8 => (.ext 0, o59aa_1 hs t4 t7 t8)
noncomputable def r59aa (hs : List (List AV)) (t4 t7 t8 : Int) : Option T59aa := run (fun x => stp59aa hs t4 t7 x.t8) (⟨t8⟩ : S59aa)
noncomputable def i59aa_0 (hs : List (List AV)) (t4 t7 t8 : Int) : Bool := match r59aa hs t4 t7 t8 with
  | some (.x0 _ _) => true
  | _ => false
noncomputable def v59aa_0_t4' (hs : List (List AV)) (t4 t7 t8 : Int) : Int := match r59aa hs t4 t7 t8 with
  | some (.x0 t4' _) => t4'
  | _ => default
noncomputable def v59aa_0_t8 (hs : List (List AV)) (t4 t7 t8 : Int) : Int := match r59aa hs t4 t7 t8 with
  | some (.x0 _ t8) => t8
  | _ => default
noncomputable def i59aa_1 (hs : List (List AV)) (t4 t7 t8 : Int) : Bool := match r59aa hs t4 t7 t8 with
  | some (.x1 _) => true
  | _ => false
noncomputable def v59aa_1_t8 (hs : List (List AV)) (t4 t7 t8 : Int) : Int := match r59aa hs t4 t7 t8 with
  | some (.x1 t8) => t8
  | _ => default
noncomputable def q59aa (hs : List (List AV)) (t4 t7 t8 : Int) : List (Bool × Ex × St) := [(i59aa_0 hs t4 t7 t8, .ret, o59aa_0 hs t4 t7 (v59aa_0_t4' hs t4 t7 t8) (v59aa_0_t8 hs t4 t7 t8)), (i59aa_1 hs t4 t7 t8, .ext 0, o59aa_1 hs t4 t7 (v59aa_1_t8 hs t4 t7 t8))]
noncomputable def l59aa (st : St) : Option (List (Bool × Ex × St)) := qget [.rs 55, .fn 36 [], .i .i64, .i .i64, .i .i64] [] 0 19 (normW Try.prog [(0, none), (1, none), (4, none), (7, none), (8, none)] 0 st) fun ls => q59aa (lLL ls 0) (lI ls 1) (lI ls 2) (lI ls 3)
noncomputable def L59a : LSpec := fun p st => match p with
  | [false, true, false, true] => l59aa st
  | _ => none
theorem is59aa_0 (hs : List (List AV)) (t4 t7 t8 : Int) (h : i59aa_0 hs t4 t7 t8 = true) : r59aa hs t4 t7 t8 = some (.x0 (v59aa_0_t4' hs t4 t7 t8) (v59aa_0_t8 hs t4 t7 t8)) := by
  unfold i59aa_0 at h
  unfold v59aa_0_t4' v59aa_0_t8
  generalize r59aa hs t4 t7 t8 = r at h ⊢
  rcases r with _ | y
  · cases h
  · cases y <;> first | rfl | cases h
theorem is59aa_1 (hs : List (List AV)) (t4 t7 t8 : Int) (h : i59aa_1 hs t4 t7 t8 = true) : r59aa hs t4 t7 t8 = some (.x1 (v59aa_1_t8 hs t4 t7 t8)) := by
  unfold i59aa_1 at h
  unfold v59aa_1_t8
  generalize r59aa hs t4 t7 t8 = r at h ⊢
  rcases r with _ | y
  · cases h
  · cases y <;> first | rfl | cases h
theorem round59aa (hs : List (List AV)) (t4 t7 t8 : Int) : round Try.prog SW1 (ro 59) L59a lp59aa [false, true, false, true] [(0, none), (1, none), (4, none), (7, none), (8, none)] 0 (s59aa hs t4 t7 t8) =
    cond (decide (t8 < t7)) (cond (inb t8 hs.length) (cond (g36 (fI (hs.getD t8.toNat []) 0) (fI (hs.getD t8.toNat []) 1) (fI (hs.getD t8.toNat []) 2) (fI (hs.getD t8.toNat []) 3)) (cond (w36_0 (fI (hs.getD t8.toNat []) 0) (fI (hs.getD t8.toNat []) 1) (fI (hs.getD t8.toNat []) 2) (fI (hs.getD t8.toNat []) 3)) (some (.ret, o59aa_0 hs t4 t7 t8 t8)) (some (.nrm, s59aa hs t4 t7 (IntKind.i64.wrap (t8 + 1))))) (none)) (none)) (some (.ext 0, o59aa_1 hs t4 t7 t8)) := by kernel_rfl
theorem rnd59aa (hs : List (List AV)) (t4 t7 : Int) (x : S59aa) : round Try.prog SW1 (ro 59) L59a lp59aa [false, true, false, true] [(0, none), (1, none), (4, none), (7, none), (8, none)] 0 ((fun x => s59aa hs t4 t7 x.t8) x) = toR (fun x => s59aa hs t4 t7 x.t8) (ou59aa hs t4 t7) (stp59aa hs t4 t7 x.t8) := by
  refine (round59aa _ _ _ _ ).trans ?_
  unfold stp59aa
  simp only [toR_cond]
  rfl
theorem lokb59aa (hs : List (List AV)) (t4 t7 t8 : Int) {e : Ex} {s : St} (hch : Chosen (q59aa hs t4 t7 t8) e s) : LB Try.prog SW1 (ro 59) L59a lp59aa [false, true, false, true] [(0, none), (1, none), (4, none), (7, none), (8, none)] 0 (s59aa hs t4 t7 t8) e s := by
  unfold q59aa at hch
  have main := fun y h => LB_run (x := (⟨t8⟩ : S59aa)) (y := y) (nb := 0) (fun y => by cases y <;> simp [ou59aa]) (rnd59aa hs t4 t7) h
  obtain ⟨x, hx, hg, rfl, rfl⟩ := chosen_any hch
  simp only [List.mem_cons, List.not_mem_nil, or_false] at hx
  rcases hx with rfl | rfl
  · exact main _ (is59aa_0 hs t4 t7 t8 hg)
  · exact main _ (is59aa_1 hs t4 t7 t8 hg)
theorem lok59aa {st : St} {outs : List (Bool × Ex × St)} {e : Ex} {s : St} (hl : l59aa st = some outs) (hch : Chosen outs e s) :
    ∃ keep nb, 0 ≤ nb ∧ LB Try.prog SW1 (ro 59) L59a lp59aa [false, true, false, true] keep nb st e s := by
  unfold l59aa at hl
  obtain ⟨ls, hno, rfl⟩ := qget_some hl
  have hno := normW_norm hno
  refine ⟨_, _, ?_, .enterQ hno (s2 := s59aa (lLL ls 0) (lI ls 1) (lI ls 2) (lI ls 3)) (by kernel_rfl) (lokb59aa _ _ _ _ hch)⟩
  decide
theorem L59a_ok (q : Pl) (c : Code) (hq : locate c59a q.reverse = some (.loop c)) (st : St) (outs : List (Bool × Ex × St)) (e : Ex) (s : St) (hl : L59a q st = some outs) (hch : Chosen outs e s) :
    ∃ keep nb, 0 ≤ nb ∧ LB Try.prog SW1 (ro 59) L59a c q keep nb st e s := by
  unfold L59a at hl
  split at hl
  · have : locate c59a ([false, true, false, true] : Pl).reverse = some (.loop lp59aa) := by kernel_rfl
    rw [this] at hq
    cases hq
    exact lok59aa hl hch
  · cases hl
theorem lok59a : LOK Try.prog SW1 (ro 59) L59a 0 false c59a [] :=
  lok_lo L59a_ok c59a [] false (locate_nil _) (by kernel_rfl)
noncomputable def t59a (hs : List (List AV)) : Tr ((Int)) :=
  .cn (i59aa_0 hs 0 (↑hs.length : Int) 0) (.lf (v59aa_0_t4' hs 0 (↑hs.length : Int) 0)) (.cn (i59aa_1 hs 0 (↑hs.length : Int) 0) (.lf (-1)) (.nn))
noncomputable def g59a (hs : List (List AV)) : Bool := (t59a hs).g
noncomputable def w59a_0 (hs : List (List AV)) : Int := (t59a hs).val
theorem eq59a (hs : List (List AV)) : evF Try.prog SW1 (ro 59) L59a Try.f59 [.rs 55 hs, .fn 36 []] = (t59a hs).opt (fun (x : (Int)) => (.i .i64 x : AV)) := by kernel_rfl
theorem con59a (hs : List (List AV)) (h : g59a hs = true) : Con Try.prog 59 [.rs 55 hs, .fn 36 []] [] (.i .i64 (w59a_0 hs)) [] :=
  con_of SW1_ok mixed Try.func59 (c := c59a) rfl (names 59 _ Try.func59) lok59a ((eq59a hs).trans (Tr.sound _ _ h))
noncomputable def e59a (args : List AV) (rows : List Blk) : Option (Bool × AV × List Blk) := match args, rows with
  | [.rs 55 hs, .fn 36 []], [] => some (g59a hs, .i .i64 (w59a_0 hs), [])
  | _, _ => none
theorem e59a_ok (args : List AV) (rows : List Blk) (pre : Bool) (v : AV) (rows' : List Blk) (h : e59a args rows = some (pre, v, rows')) (hp : pre = true) : Con Try.prog 59 args rows v rows' := by
  unfold e59a at h
  split at h
  · cases h; exact con59a _ hp
  · cases h
-- SPEC 59
end Go.Proofs.Ytoglnllbopcejaa

set_option maxRecDepth 100000
set_option maxHeartbeats 0
set_option linter.unusedVariables false
namespace Go.Proofs.Ytoglnllbopcejaa
open Go Go.Ev

noncomputable def c59b : Code := match Try.f59.body with | some c => c | _ => .skip
noncomputable def lp59ba : Code := loopAt c59b [true, false, true, false]
noncomputable def s59ba (hs : List (List AV)) (u v t4 t7 t8 : Int) : St :=
  { t := [(0, .rs 55 hs), (1, .fn 43 [.rp [.int .i64, .int .i64] [.i .i64 u, .i .i64 v] 0]), (4, .i .i64 t4), (7, .i .i64 t7), (8, .i .i64 t8)], m := [], nx := 0, nt := 19 }
structure S59ba where
  t8 : Int
inductive T59ba where
  | x0 (t4' : Int) (t8 : Int)
  | x1 (t8 : Int)
noncomputable def stp59ba (hs : List (List AV)) (u v t4 t7 t8 : Int) : Lp S59ba T59ba :=
  cond (decide (t8 < t7)) (cond (inb t8 hs.length) (cond (g43 (fI (hs.getD t8.toNat []) 0) (fI (hs.getD t8.toNat []) 1) (fI (hs.getD t8.toNat []) 2) (fI (hs.getD t8.toNat []) 3) u v) (cond (w43_0 (fI (hs.getD t8.toNat []) 0) (fI (hs.getD t8.toNat []) 1) (fI (hs.getD t8.toNat []) 2) (fI (hs.getD t8.toNat []) 3) u v) (.out (.x0 t8 t8)) (.go ⟨IntKind.i64.wrap (t8 + 1)⟩)) (.bad)) (.bad)) (.out (.x1 t8))
noncomputable def o59ba_0 (hs : List (List AV)) (u v t4 t7 t4' t8 : Int) : St :=
  { t := [(0, .rs 55 hs), (1, .fn 43 [.rp [.int .i64, .int .i64] [.i .i64 u, .i .i64 v] 0]), (4, .i .i64 t4'), (7, .i .i64 t7), (8, .i .i64 t8)], m := [], nx := 0, nt := 19 }
noncomputable def o59ba_1 (hs : List (List AV)) (u v t4 t7 t8 : Int) : St :=
  { t := [(0, .rs 55 hs), (1, .fn 43 [.rp [.int .i64, .int .i64] [.i .i64 u, .i .i64 v] 0]), (4, .i .i64 t4), (7, .i .i64 t7), (8, .i .i64 t8)], m := [], nx := 0, nt := 19 }
noncomputable def ou59ba (hs : List (List AV)) (u v t4 t7 : Int) : T59ba → Ex × St
  | .x0 t4' t8 => (.ret, o59ba_0 hs u v t4 t7 t4' t8)
  | .x1 t8 => (.ext 0, o59ba_1 hs u v t4 t7 t8)
noncomputable def r59ba (hs : List (List AV)) (u v t4 t7 t8 : Int) : Option T59ba := run (fun x => stp59ba hs u v t4 t7 x.t8) (⟨t8⟩ : S59ba)
noncomputable def i59ba_0 (hs : List (List AV)) (u v t4 t7 t8 : Int) : Bool := match r59ba hs u v t4 t7 t8 with
  | some (.x0 _ _) => true
  | _ => false
noncomputable def v59ba_0_t4' (hs : List (List AV)) (u v t4 t7 t8 : Int) : Int := match r59ba hs u v t4 t7 t8 with
  | some (.x0 t4' _) => t4'
  | _ => default
noncomputable def v59ba_0_t8 (hs : List (List AV)) (u v t4 t7 t8 : Int) : Int := match r59ba hs u v t4 t7 t8 with
  | some (.x0 _ t8) => t8
  | _ => default
noncomputable def i59ba_1 (hs : List (List AV)) (u v t4 t7 t8 : Int) : Bool := match r59ba hs u v t4 t7 t8 with
  | some (.x1 _) => true
  | _ => false
noncomputable def v59ba_1_t8 (hs : List (List AV)) (u v t4 t7 t8 : Int) : Int := match r59ba hs u v t4 t7 t8 with
  | some (.x1 t8) => t8
  | _ => default
noncomputable def q59ba (hs : List (List AV)) (u v t4 t7 t8 : Int) : List (Bool × Ex × St) := [(i59ba_0 hs u v t4 t7 t8, .ret, o59ba_0 hs u v t4 t7 (v59ba_0_t4' hs u v t4 t7 t8) (v59ba_0_t8 hs u v t4 t7 t8)), (i59ba_1 hs u v t4 t7 t8, .ext 0, o59ba_1 hs u v t4 t7 (v59ba_1_t8 hs u v t4 t7 t8))]
noncomputable def l59ba (st : St) : Option (List (Bool × Ex × St)) := qget [.rs 55, .fn 43 [.rp [.int .i64, .int .i64] [.i .i64, .i .i64] 0], .i .i64, .i .i64, .i .i64] [] 0 19 (normW Try.prog [(0, none), (1, none), (4, none), (7, none), (8, none)] 0 st) fun ls => q59ba (lLL ls 0) (lI ls 1) (lI ls 2) (lI ls 3) (lI ls 4) (lI ls 5)
noncomputable def L59b : LSpec := fun p st => match p with
  | [false, true, false, true] => l59ba st
  | _ => none
theorem is59ba_0 (hs : List (List AV)) (u v t4 t7 t8 : Int) (h : i59ba_0 hs u v t4 t7 t8 = true) : r59ba hs u v t4 t7 t8 = some (.x0 (v59ba_0_t4' hs u v t4 t7 t8) (v59ba_0_t8 hs u v t4 t7 t8)) := by
  unfold i59ba_0 at h
  unfold v59ba_0_t4' v59ba_0_t8
  generalize r59ba hs u v t4 t7 t8 = r at h ⊢
  rcases r with _ | y
  · cases h
  · cases y <;> first | rfl | cases h
theorem is59ba_1 (hs : List (List AV)) (u v t4 t7 t8 : Int) (h : i59ba_1 hs u v t4 t7 t8 = true) : r59ba hs u v t4 t7 t8 = some (.x1 (v59ba_1_t8 hs u v t4 t7 t8)) := by
  unfold i59ba_1 at h
  unfold v59ba_1_t8
  generalize r59ba hs u v t4 t7 t8 = r at h ⊢
  rcases r with _ | y
  · cases h
  · cases y <;> first | rfl | cases h
theorem round59ba (hs : List (List AV)) (u v t4 t7 t8 : Int) : round Try.prog SW1 (ro 59) L59b lp59ba [false, true, false, true] [(0, none), (1, none), (4, none), (7, none), (8, none)] 0 (s59ba hs u v t4 t7 t8) =
    cond (decide (t8 < t7)) (cond (inb t8 hs.length) (cond (g43 (fI (hs.getD t8.toNat []) 0) (fI (hs.getD t8.toNat []) 1) (fI (hs.getD t8.toNat []) 2) (fI (hs.getD t8.toNat []) 3) u v) (cond (w43_0 (fI (hs.getD t8.toNat []) 0) (fI (hs.getD t8.toNat []) 1) (fI (hs.getD t8.toNat []) 2) (fI (hs.getD t8.toNat []) 3) u v) (some (.ret, o59ba_0 hs u v t4 t7 t8 t8)) (some (.nrm, s59ba hs u v t4 t7 (IntKind.i64.wrap (t8 + 1))))) (none)) (none)) (some (.ext 0, o59ba_1 hs u v t4 t7 t8)) := by kernel_rfl
theorem rnd59ba (hs : List (List AV)) (u v t4 t7 : Int) (x : S59ba) : round Try.prog SW1 (ro 59) L59b lp59ba [false, true, false, true] [(0, none), (1, none), (4, none), (7, none), (8, none)] 0 ((fun x => s59ba hs u v t4 t7 x.t8) x) = toR (fun x => s59ba hs u v t4 t7 x.t8) (ou59ba hs u v t4 t7) (stp59ba hs u v t4 t7 x.t8) := by
  refine (round59ba _ _ _ _ _ _ ).trans ?_
  unfold stp59ba
  simp only [toR_cond]
  rfl
theorem lokb59ba (hs : List (List AV)) (u v t4 t7 t8 : Int) {e : Ex} {s : St} (hch : Chosen (q59ba hs u v t4 t7 t8) e s) : LB Try.prog SW1 (ro 59) L59b lp59ba [false, true, false, true] [(0, none), (1, none), (4, none), (7, none), (8, none)] 0 (s59ba hs u v t4 t7 t8) e s := by
  unfold q59ba at hch
  have main := fun y h => LB_run (x := (⟨t8⟩ : S59ba)) (y := y) (nb := 0) (fun y => by cases y <;> simp [ou59ba]) (rnd59ba hs u v t4 t7) h
  obtain ⟨x, hx, hg, rfl, rfl⟩ := chosen_any hch
  simp only [List.mem_cons, List.not_mem_nil, or_false] at hx
  rcases hx with rfl | rfl
  · exact main _ (is59ba_0 hs u v t4 t7 t8 hg)
  · exact main _ (is59ba_1 hs u v t4 t7 t8 hg)
theorem lok59ba {st : St} {outs : List (Bool × Ex × St)} {e : Ex} {s : St} (hl : l59ba st = some outs) (hch : Chosen outs e s) :
    ∃ keep nb, 0 ≤ nb ∧ LB Try.prog SW1 (ro 59) L59b lp59ba [false, true, false, true] keep nb st e s := by
  unfold l59ba at hl
  obtain ⟨ls, hno, rfl⟩ := qget_some hl
  have hno := normW_norm hno
  refine ⟨_, _, ?_, .enterQ hno (s2 := s59ba (lLL ls 0) (lI ls 1) (lI ls 2) (lI ls 3) (lI ls 4) (lI ls 5)) (by kernel_rfl) (lokb59ba _ _ _ _ _ _ hch)⟩
  decide
theorem L59b_ok (q : Pl) (c : Code) (hq : locate c59b q.reverse = some (.loop c)) (st : St) (outs : List (Bool × Ex × St)) (e : Ex) (s : St) (hl : L59b q st = some outs) (hch : Chosen outs e s) :
    ∃ keep nb, 0 ≤ nb ∧ LB Try.prog SW1 (ro 59) L59b c q keep nb st e s := by
  unfold L59b at hl
  split at hl
  · have : locate c59b ([false, true, false, true] : Pl).reverse = some (.loop lp59ba) := by kernel_rfl
    rw [this] at hq
    cases hq
    exact lok59ba hl hch
  · cases hl
theorem lok59b : LOK Try.prog SW1 (ro 59) L59b 0 false c59b [] :=
  lok_lo L59b_ok c59b [] false (locate_nil _) (by kernel_rfl)
noncomputable def t59b (hs : List (List AV)) (u v : Int) : Tr ((Int)) :=
  .cn (i59ba_0 hs u v 0 (↑hs.length : Int) 0) (.lf (v59ba_0_t4' hs u v 0 (↑hs.length : Int) 0)) (.cn (i59ba_1 hs u v 0 (↑hs.length : Int) 0) (.lf (-1)) (.nn))
noncomputable def g59b (hs : List (List AV)) (u v : Int) : Bool := (t59b hs u v).g
noncomputable def w59b_0 (hs : List (List AV)) (u v : Int) : Int := (t59b hs u v).val
theorem eq59b (hs : List (List AV)) (u v : Int) : evF Try.prog SW1 (ro 59) L59b Try.f59 [.rs 55 hs, .fn 43 [.rp [.int .i64, .int .i64] [.i .i64 u, .i .i64 v] 0]] = (t59b hs u v).opt (fun (x : (Int)) => (.i .i64 x : AV)) := by kernel_rfl
theorem con59b (hs : List (List AV)) (u v : Int) (h : g59b hs u v = true) : Con Try.prog 59 [.rs 55 hs, .fn 43 [.rp [.int .i64, .int .i64] [.i .i64 u, .i .i64 v] 0]] [] (.i .i64 (w59b_0 hs u v)) [] :=
  con_of SW1_ok mixed Try.func59 (c := c59b) rfl (names 59 _ Try.func59) lok59b ((eq59b hs u v).trans (Tr.sound _ _ h))
noncomputable def e59b (args : List AV) (rows : List Blk) : Option (Bool × AV × List Blk) := match args, rows with
  | [.rs 55 hs, .fn 43 [.rp [.int .i64, .int .i64] [.i .i64 u, .i .i64 v] 0]], [] => some (g59b hs u v, .i .i64 (w59b_0 hs u v), [])
  | _, _ => none
theorem e59b_ok (args : List AV) (rows : List Blk) (pre : Bool) (v : AV) (rows' : List Blk) (h : e59b args rows = some (pre, v, rows')) (hp : pre = true) : Con Try.prog 59 args rows v rows' := by
  unfold e59b at h
  split at h
  · cases h; exact con59b _ _ _ hp
  · cases h
-- SPEC 59
end Go.Proofs.Ytoglnllbopcejaa

set_option maxRecDepth 100000
set_option maxHeartbeats 0
set_option linter.unusedVariables false
namespace Go.Proofs.Ytoglnllbopcejaa
open Go Go.Ev

noncomputable def c33 : Code := match Try.f33.body with | some c => c | _ => .skip
noncomputable def lp33a : Code := loopAt c33 [true, true, false, true, false]
noncomputable def s33a (os hs : List (List AV)) (st tl th : Int) (ms : List (List AV)) (u v : Int) (t12 : List (List AV)) (t13 t14 m2_0 m2_1 m5_0 m5_1 : Int) : St :=
  { t := [(2, .rp [.sl 32, .sl 55, .int .i64, .int .i64, .int .i64, .sl 67] [.rs 32 os, .rs 55 hs, .i .i64 st, .i .i64 tl, .i .i64 th, .rs 67 ms] 0), (3, .rp [.int .i64, .int .i64] [.i .i64 u, .i .i64 v] 0), (4, .p 2 0 0), (5, .p 5 0 0), (12, .rs 67 t12), (13, .i .i64 t13), (14, .i .i64 t14)], m := [(0, .dead), (1, .dead), (2, .row 27 [[.i .i64 m2_0, .i .i64 m2_1]]), (3, .dead), (4, .dead), (5, .row 27 [[.i .i64 m5_0, .i .i64 m5_1]])], nx := 6, nt := 44 }
structure S33a where
  t14 : Int
  m5_0 : Int
  m5_1 : Int
inductive T33a where
  | x0 (t14 : Int) (m5_0 : Int) (m5_1 : Int)
noncomputable def stp33a (os hs : List (List AV)) (st tl th : Int) (ms : List (List AV)) (u v : Int) (t12 : List (List AV)) (t13 m2_0 m2_1 t14 m5_0 m5_1 : Int) : Lp S33a T33a :=
  cond (decide (t14 < t13)) (cond (inb t14 t12.length) (.go ⟨IntKind.i64.wrap (t14 + 1), bmax m5_0 (IntKind.i64.wrap (fI (t12.getD t14.toNat []) 2 - IntKind.i64.wrap (st * w55_0 u v (fI (t12.getD t14.toNat []) 0) (fI (t12.getD t14.toNat []) 1)))), bmin m5_1 (IntKind.i64.wrap (fI (t12.getD t14.toNat []) 3 + IntKind.i64.wrap (st * w55_0 u v (fI (t12.getD t14.toNat []) 0) (fI (t12.getD t14.toNat []) 1))))⟩) (.bad)) (.out (.x0 t14 m5_0 m5_1))
noncomputable def o33a_0 (os hs : List (List AV)) (st tl th : Int) (ms : List (List AV)) (u v : Int) (t12 : List (List AV)) (t13 m2_0 m2_1 t14 m5_0 m5_1 : Int) : St :=
  { t := [(2, .rp [.sl 32, .sl 55, .int .i64, .int .i64, .int .i64, .sl 67] [.rs 32 os, .rs 55 hs, .i .i64 st, .i .i64 tl, .i .i64 th, .rs 67 ms] 0), (3, .rp [.int .i64, .int .i64] [.i .i64 u, .i .i64 v] 0), (4, .p 2 0 0), (5, .p 5 0 0), (12, .rs 67 t12), (13, .i .i64 t13), (14, .i .i64 t14)], m := [(0, .dead), (1, .dead), (2, .row 27 [[.i .i64 m2_0, .i .i64 m2_1]]), (3, .dead), (4, .dead), (5, .row 27 [[.i .i64 m5_0, .i .i64 m5_1]])], nx := 6, nt := 44 }
noncomputable def ou33a (os hs : List (List AV)) (st tl th : Int) (ms : List (List AV)) (u v : Int) (t12 : List (List AV)) (t13 m2_0 m2_1 : Int) : T33a → Ex × St
  | .x0 t14 m5_0 m5_1 => (.ext 0, o33a_0 os hs st tl th ms u v t12 t13 m2_0 m2_1 t14 m5_0 m5_1)
noncomputable def r33a (os hs : List (List AV)) (st tl th : Int) (ms : List (List AV)) (u v : Int) (t12 : List (List AV)) (t13 m2_0 m2_1 t14 m5_0 m5_1 : Int) : Option T33a := run (fun x => stp33a os hs st tl th ms u v t12 t13 m2_0 m2_1 x.t14 x.m5_0 x.m5_1) (⟨t14, m5_0, m5_1⟩ : S33a)
noncomputable def i33a_0 (os hs : List (List AV)) (st tl th : Int) (ms : List (List AV)) (u v : Int) (t12 : List (List AV)) (t13 m2_0 m2_1 t14 m5_0 m5_1 : Int) : Bool := match r33a os hs st tl th ms u v t12 t13 m2_0 m2_1 t14 m5_0 m5_1 with
  | some (.x0 _ _ _) => true
  | _ => false
noncomputable def v33a_0_t14 (os hs : List (List AV)) (st tl th : Int) (ms : List (List AV)) (u v : Int) (t12 : List (List AV)) (t13 m2_0 m2_1 t14 m5_0 m5_1 : Int) : Int := match r33a os hs st tl th ms u v t12 t13 m2_0 m2_1 t14 m5_0 m5_1 with
  | some (.x0 t14 _ _) => t14
  | _ => default
noncomputable def v33a_0_m5_0 (os hs : List (List AV)) (st tl th : Int) (ms : List (List AV)) (u v : Int) (t12 : List (List AV)) (t13 m2_0 m2_1 t14 m5_0 m5_1 : Int) : Int := match r33a os hs st tl th ms u v t12 t13 m2_0 m2_1 t14 m5_0 m5_1 with
  | some (.x0 _ m5_0 _) => m5_0
  | _ => default
noncomputable def v33a_0_m5_1 (os hs : List (List AV)) (st tl th : Int) (ms : List (List AV)) (u v : Int) (t12 : List (List AV)) (t13 m2_0 m2_1 t14 m5_0 m5_1 : Int) : Int := match r33a os hs st tl th ms u v t12 t13 m2_0 m2_1 t14 m5_0 m5_1 with
  | some (.x0 _ _ m5_1) => m5_1
  | _ => default
noncomputable def q33a (os hs : List (List AV)) (st tl th : Int) (ms : List (List AV)) (u v : Int) (t12 : List (List AV)) (t13 t14 m2_0 m2_1 m5_0 m5_1 : Int) : List (Bool × Ex × St) := [(i33a_0 os hs st tl th ms u v t12 t13 m2_0 m2_1 t14 m5_0 m5_1, .ext 0, o33a_0 os hs st tl th ms u v t12 t13 m2_0 m2_1 (v33a_0_t14 os hs st tl th ms u v t12 t13 m2_0 m2_1 t14 m5_0 m5_1) (v33a_0_m5_0 os hs st tl th ms u v t12 t13 m2_0 m2_1 t14 m5_0 m5_1) (v33a_0_m5_1 os hs st tl th ms u v t12 t13 m2_0 m2_1 t14 m5_0 m5_1))]
noncomputable def l33a (st : St) : Option (List (Bool × Ex × St)) := qget [.rp [.sl 32, .sl 55, .int .i64, .int .i64, .int .i64, .sl 67] [.rs 32, .rs 55, .i .i64, .i .i64, .i .i64, .rs 67] 0, .rp [.int .i64, .int .i64] [.i .i64, .i .i64] 0, .p 2 0 0, .p 5 0 0, .rs 67, .i .i64, .i .i64] [(0, .dead), (1, .dead), (2, .row 27 [.l [.i .i64, .i .i64]]), (3, .dead), (4, .dead), (5, .row 27 [.l [.i .i64, .i .i64]])] 6 44 (normW Try.prog [(2, none), (3, none), (4, none), (5, none), (12, none), (13, none), (14, none)] 6 st) fun ls => q33a (lLL ls 0) (lLL ls 1) (lI ls 2) (lI ls 3) (lI ls 4) (lLL ls 5) (lI ls 6) (lI ls 7) (lLL ls 8) (lI ls 9) (lI ls 10) (lI ls 11) (lI ls 12) (lI ls 13) (lI ls 14)
noncomputable def L33 : LSpec := fun p st => match p with
  | [false, true, false, true, true] => l33a st
  | _ => none
theorem is33a_0 (os hs : List (List AV)) (st tl th : Int) (ms : List (List AV)) (u v : Int) (t12 : List (List AV)) (t13 m2_0 m2_1 t14 m5_0 m5_1 : Int) (h : i33a_0 os hs st tl th ms u v t12 t13 m2_0 m2_1 t14 m5_0 m5_1 = true) : r33a os hs st tl th ms u v t12 t13 m2_0 m2_1 t14 m5_0 m5_1 = some (.x0 (v33a_0_t14 os hs st tl th ms u v t12 t13 m2_0 m2_1 t14 m5_0 m5_1) (v33a_0_m5_0 os hs st tl th ms u v t12 t13 m2_0 m2_1 t14 m5_0 m5_1) (v33a_0_m5_1 os hs st tl th ms u v t12 t13 m2_0 m2_1 t14 m5_0 m5_1)) := by
  unfold i33a_0 at h
  unfold v33a_0_t14 v33a_0_m5_0 v33a_0_m5_1
  generalize r33a os hs st tl th ms u v t12 t13 m2_0 m2_1 t14 m5_0 m5_1 = r at h ⊢
  rcases r with _ | y
  · cases h
  · cases y <;> first | rfl | cases h
theorem round33a (os hs : List (List AV)) (st tl th : Int) (ms : List (List AV)) (u v : Int) (t12 : List (List AV)) (t13 t14 m2_0 m2_1 m5_0 m5_1 : Int) : round Try.prog SW1 (ro 33) L33 lp33a [false, true, false, true, true] [(2, none), (3, none), (4, none), (5, none), (12, none), (13, none), (14, none)] 6 (s33a os hs st tl th ms u v t12 t13 t14 m2_0 m2_1 m5_0 m5_1) =
    cond (decide (t14 < t13)) (cond (inb t14 t12.length) (some (.nrm, s33a os hs st tl th ms u v t12 t13 (IntKind.i64.wrap (t14 + 1)) m2_0 m2_1 (bmax m5_0 (IntKind.i64.wrap (fI (t12.getD t14.toNat []) 2 - IntKind.i64.wrap (st * w55_0 u v (fI (t12.getD t14.toNat []) 0) (fI (t12.getD t14.toNat []) 1))))) (bmin m5_1 (IntKind.i64.wrap (fI (t12.getD t14.toNat []) 3 + IntKind.i64.wrap (st * w55_0 u v (fI (t12.getD t14.toNat []) 0) (fI (t12.getD t14.toNat []) 1))))))) (none)) (some (.ext 0, o33a_0 os hs st tl th ms u v t12 t13 m2_0 m2_1 t14 m5_0 m5_1)) := by kernel_rfl
theorem rnd33a (os hs : List (List AV)) (st tl th : Int) (ms : List (List AV)) (u v : Int) (t12 : List (List AV)) (t13 m2_0 m2_1 : Int) (x : S33a) : round Try.prog SW1 (ro 33) L33 lp33a [false, true, false, true, true] [(2, none), (3, none), (4, none), (5, none), (12, none), (13, none), (14, none)] 6 ((fun x => s33a os hs st tl th ms u v t12 t13 x.t14 m2_0 m2_1 x.m5_0 x.m5_1) x) = toR (fun x => s33a os hs st tl th ms u v t12 t13 x.t14 m2_0 m2_1 x.m5_0 x.m5_1) (ou33a os hs st tl th ms u v t12 t13 m2_0 m2_1) (stp33a os hs st tl th ms u v t12 t13 m2_0 m2_1 x.t14 x.m5_0 x.m5_1) := by
  refine (round33a _ _ _ _ _ _ _ _ _ _ _ _ _ _ _ ).trans ?_
  unfold stp33a
  simp only [toR_cond]
  rfl
theorem lokb33a (os hs : List (List AV)) (st tl th : Int) (ms : List (List AV)) (u v : Int) (t12 : List (List AV)) (t13 t14 m2_0 m2_1 m5_0 m5_1 : Int) {e : Ex} {s : St} (hch : Chosen (q33a os hs st tl th ms u v t12 t13 t14 m2_0 m2_1 m5_0 m5_1) e s) : LB Try.prog SW1 (ro 33) L33 lp33a [false, true, false, true, true] [(2, none), (3, none), (4, none), (5, none), (12, none), (13, none), (14, none)] 6 (s33a os hs st tl th ms u v t12 t13 t14 m2_0 m2_1 m5_0 m5_1) e s := by
  unfold q33a at hch
  have main := fun y h => LB_run (x := (⟨t14, m5_0, m5_1⟩ : S33a)) (y := y) (nb := 6) (fun y => by cases y <;> simp [ou33a]) (rnd33a os hs st tl th ms u v t12 t13 m2_0 m2_1) h
  obtain ⟨x, hx, hg, rfl, rfl⟩ := chosen_any hch
  simp only [List.mem_cons, List.not_mem_nil, or_false] at hx
  subst hx
  exact main _ (is33a_0 os hs st tl th ms u v t12 t13 m2_0 m2_1 t14 m5_0 m5_1 hg)
theorem lok33a {st : St} {outs : List (Bool × Ex × St)} {e : Ex} {s : St} (hl : l33a st = some outs) (hch : Chosen outs e s) :
    ∃ keep nb, 0 ≤ nb ∧ LB Try.prog SW1 (ro 33) L33 lp33a [false, true, false, true, true] keep nb st e s := by
  unfold l33a at hl
  obtain ⟨ls, hno, rfl⟩ := qget_some hl
  have hno := normW_norm hno
  refine ⟨_, _, ?_, .enterQ hno (s2 := s33a (lLL ls 0) (lLL ls 1) (lI ls 2) (lI ls 3) (lI ls 4) (lLL ls 5) (lI ls 6) (lI ls 7) (lLL ls 8) (lI ls 9) (lI ls 10) (lI ls 11) (lI ls 12) (lI ls 13) (lI ls 14)) (by kernel_rfl) (lokb33a _ _ _ _ _ _ _ _ _ _ _ _ _ _ _ hch)⟩
  decide
theorem L33_ok (q : Pl) (c : Code) (hq : locate c33 q.reverse = some (.loop c)) (st : St) (outs : List (Bool × Ex × St)) (e : Ex) (s : St) (hl : L33 q st = some outs) (hch : Chosen outs e s) :
    ∃ keep nb, 0 ≤ nb ∧ LB Try.prog SW1 (ro 33) L33 c q keep nb st e s := by
  unfold L33 at hl
  split at hl
  · have : locate c33 ([false, true, false, true, true] : Pl).reverse = some (.loop lp33a) := by kernel_rfl
    rw [this] at hq
    cases hq
    exact lok33a hl hch
  · cases hl
theorem lok33 : LOK Try.prog SW1 (ro 33) L33 0 false c33 [] :=
  lok_lo L33_ok c33 [] false (locate_nil _) (by kernel_rfl)
noncomputable def t33 (os hs : List (List AV)) (st tl th : Int) (ms : List (List AV)) (u v : Int) : Tr ((Int) × (Int)) :=
  .cn (i33a_0 os hs st tl th ms u v ms (↑ms.length : Int) 0 0 0 tl th) (.lf (v33a_0_m5_0 os hs st tl th ms u v ms (↑ms.length : Int) 0 0 0 tl th, v33a_0_m5_1 os hs st tl th ms u v ms (↑ms.length : Int) 0 0 0 tl th)) (.nn)
noncomputable def g33 (os hs : List (List AV)) (st tl th : Int) (ms : List (List AV)) (u v : Int) : Bool := (t33 os hs st tl th ms u v).g
noncomputable def w33_0 (os hs : List (List AV)) (st tl th : Int) (ms : List (List AV)) (u v : Int) : Int := (t33 os hs st tl th ms u v).val.1
noncomputable def w33_1 (os hs : List (List AV)) (st tl th : Int) (ms : List (List AV)) (u v : Int) : Int := (t33 os hs st tl th ms u v).val.2
theorem eq33 (os hs : List (List AV)) (st tl th : Int) (ms : List (List AV)) (u v : Int) : evF Try.prog SW1 (ro 33) L33 Try.f33 [.agg [.rs 32 os, .rs 55 hs, .i .i64 st, .i .i64 tl, .i .i64 th, .rs 67 ms], .agg [.i .i64 u, .i .i64 v]] = (t33 os hs st tl th ms u v).opt (fun (x : (Int) × (Int)) => (.agg [.i .i64 x.1, .i .i64 x.2] : AV)) := by kernel_rfl
theorem con33 (os hs : List (List AV)) (st tl th : Int) (ms : List (List AV)) (u v : Int) (h : g33 os hs st tl th ms u v = true) : Con Try.prog 33 [.agg [.rs 32 os, .rs 55 hs, .i .i64 st, .i .i64 tl, .i .i64 th, .rs 67 ms], .agg [.i .i64 u, .i .i64 v]] [] (.agg [.i .i64 (w33_0 os hs st tl th ms u v), .i .i64 (w33_1 os hs st tl th ms u v)]) [] :=
  con_of SW1_ok mixed Try.func33 (c := c33) rfl (names 33 _ Try.func33) lok33 ((eq33 os hs st tl th ms u v).trans (Tr.sound _ _ h))
noncomputable def e33 (args : List AV) (rows : List Blk) : Option (Bool × AV × List Blk) := match args, rows with
  | [.agg [.rs 32 os, .rs 55 hs, .i .i64 st, .i .i64 tl, .i .i64 th, .rs 67 ms], .agg [.i .i64 u, .i .i64 v]], [] => some (g33 os hs st tl th ms u v, .agg [.i .i64 (w33_0 os hs st tl th ms u v), .i .i64 (w33_1 os hs st tl th ms u v)], [])
  | _, _ => none
theorem e33_ok (args : List AV) (rows : List Blk) (pre : Bool) (v : AV) (rows' : List Blk) (h : e33 args rows = some (pre, v, rows')) (hp : pre = true) : Con Try.prog 33 args rows v rows' := by
  unfold e33 at h
  split at h
  · cases h; exact con33 _ _ _ _ _ _ _ _ hp
  · cases h
-- SPEC 33
end Go.Proofs.Ytoglnllbopcejaa

set_option maxRecDepth 100000
set_option maxHeartbeats 0
set_option linter.unusedVariables false
namespace Go.Proofs.Ytoglnllbopcejaa
open Go Go.Ev

noncomputable def c54 : Code := match Try.f54.body with | some c => c | _ => .skip
noncomputable def lp54a : Code := loopAt c54 [true, true, false, true, false]
noncomputable def s54a (os hs : List (List AV)) (u v : Int) (t4 : Bool) (t5 t6 : Int) : St :=
  { t := [(2, .rp [.sl 32, .sl 55] [.rs 32 os, .rs 55 hs] 0), (3, .rp [.int .i64, .int .i64] [.i .i64 u, .i .i64 v] 0), (4, .b t4), (5, .i .i64 t5), (6, .i .i64 t6)], m := [], nx := 0, nt := 75 }
structure S54a where
  t6 : Int
inductive T54a where
  | x0 (t4' : Bool) (t6 : Int)
  | x1 (t6 : Int)
noncomputable def stp54a (os hs : List (List AV)) (u v : Int) (t4 : Bool) (t5 t6 : Int) : Lp S54a T54a :=
  cond (decide (t6 < t5)) (cond (inb t6 os.length) (cond (decide (t5 = 0)) (.bad) (cond (inb ((IntKind.i64.wrap (t6 + 1)).tmod t5) os.length) (cond (decide (w63_0 (fI (os.getD t6.toNat []) 0) (fI (os.getD t6.toNat []) 1) (fI (os.getD ((IntKind.i64.wrap (t6 + 1)).tmod t5).toNat []) 0) (fI (os.getD ((IntKind.i64.wrap (t6 + 1)).tmod t5).toNat []) 1) u v < 0)) (.out (.x0 false t6)) (.go ⟨IntKind.i64.wrap (t6 + 1)⟩)) (.bad))) (.bad)) (.out (.x1 t6))
noncomputable def o54a_0 (os hs : List (List AV)) (u v : Int) (t4 : Bool) (t5 : Int) (t4' : Bool) (t6 : Int) : St :=
  { t := [(2, .rp [.sl 32, .sl 55] [.rs 32 os, .rs 55 hs] 0), (3, .rp [.int .i64, .int .i64] [.i .i64 u, .i .i64 v] 0), (4, .b t4'), (5, .i .i64 t5), (6, .i .i64 t6)], m := [], nx := 0, nt := 75 }
noncomputable def o54a_1 (os hs : List (List AV)) (u v : Int) (t4 : Bool) (t5 t6 : Int) : St :=
  { t := [(2, .rp [.sl 32, .sl 55] [.rs 32 os, .rs 55 hs] 0), (3, .rp [.int .i64, .int .i64] [.i .i64 u, .i .i64 v] 0), (4, .b t4), (5, .i .i64 t5), (6, .i .i64 t6)], m := [], nx := 0, nt := 75 }
noncomputable def ou54a (os hs : List (List AV)) (u v : Int) (t4 : Bool) (t5 : Int) : T54a → Ex × St
  | .x0 t4' t6 => (.ret, o54a_0 os hs u v t4 t5 t4' t6)
  | .x1 t6 => (.ext 0, o54a_1 os hs u v t4 t5 t6)
noncomputable def r54a (os hs : List (List AV)) (u v : Int) (t4 : Bool) (t5 t6 : Int) : Option T54a := run (fun x => stp54a os hs u v t4 t5 x.t6) (⟨t6⟩ : S54a)
noncomputable def i54a_0 (os hs : List (List AV)) (u v : Int) (t4 : Bool) (t5 t6 : Int) : Bool := match r54a os hs u v t4 t5 t6 with
  | some (.x0 _ _) => true
  | _ => false
noncomputable def v54a_0_t4' (os hs : List (List AV)) (u v : Int) (t4 : Bool) (t5 t6 : Int) : Bool := match r54a os hs u v t4 t5 t6 with
  | some (.x0 t4' _) => t4'
  | _ => default
noncomputable def v54a_0_t6 (os hs : List (List AV)) (u v : Int) (t4 : Bool) (t5 t6 : Int) : Int := match r54a os hs u v t4 t5 t6 with
  | some (.x0 _ t6) => t6
  | _ => default
noncomputable def i54a_1 (os hs : List (List AV)) (u v : Int) (t4 : Bool) (t5 t6 : Int) : Bool := match r54a os hs u v t4 t5 t6 with
  | some (.x1 _) => true
  | _ => false
noncomputable def v54a_1_t6 (os hs : List (List AV)) (u v : Int) (t4 : Bool) (t5 t6 : Int) : Int := match r54a os hs u v t4 t5 t6 with
  | some (.x1 t6) => t6
  | _ => default
noncomputable def q54a (os hs : List (List AV)) (u v : Int) (t4 : Bool) (t5 t6 : Int) : List (Bool × Ex × St) := [(i54a_0 os hs u v t4 t5 t6, .ret, o54a_0 os hs u v t4 t5 (v54a_0_t4' os hs u v t4 t5 t6) (v54a_0_t6 os hs u v t4 t5 t6)), (i54a_1 os hs u v t4 t5 t6, .ext 0, o54a_1 os hs u v t4 t5 (v54a_1_t6 os hs u v t4 t5 t6))]
noncomputable def l54a (st : St) : Option (List (Bool × Ex × St)) := qget [.rp [.sl 32, .sl 55] [.rs 32, .rs 55] 0, .rp [.int .i64, .int .i64] [.i .i64, .i .i64] 0, .b, .i .i64, .i .i64] [] 0 75 (normW Try.prog [(2, none), (3, none), (4, none), (5, none), (6, none)] 0 st) fun ls => q54a (lLL ls 0) (lLL ls 1) (lI ls 2) (lI ls 3) (lB ls 4) (lI ls 5) (lI ls 6)
noncomputable def lp54b : Code := loopAt c54 [true, true, true, false, true, false]
noncomputable def s54b (os hs : List (List AV)) (u v : Int) (t4 : Bool) (t7 : Int) : St :=
  { t := [(2, .rp [.sl 32, .sl 55] [.rs 32 os, .rs 55 hs] 0), (3, .rp [.int .i64, .int .i64] [.i .i64 u, .i .i64 v] 0), (4, .b t4), (7, .i .i64 t7)], m := [], nx := 0, nt := 75 }
structure S54b where
  t7 : Int
inductive T54b where
  | x0 (t4' : Bool) (t7 : Int)
  | x1 (t7 : Int)
noncomputable def stp54b (os hs : List (List AV)) (u v : Int) (t4 : Bool) (t7 : Int) : Lp S54b T54b :=
  cond (decide (t7 < (↑hs.length : Int))) (cond (inb t7 hs.length) (cond (decide (u > fI (hs.getD t7.toNat []) 0)) (cond (decide (u < fI (hs.getD t7.toNat []) 2)) (cond (decide (v > fI (hs.getD t7.toNat []) 1)) (cond (decide (v < fI (hs.getD t7.toNat []) 3)) (.out (.x0 false t7)) (.go ⟨IntKind.i64.wrap (t7 + 1)⟩)) (.go ⟨IntKind.i64.wrap (t7 + 1)⟩)) (.go ⟨IntKind.i64.wrap (t7 + 1)⟩)) (.go ⟨IntKind.i64.wrap (t7 + 1)⟩)) (.bad)) (.out (.x1 t7))
noncomputable def o54b_0 (os hs : List (List AV)) (u v : Int) (t4 t4' : Bool) (t7 : Int) : St :=
  { t := [(2, .rp [.sl 32, .sl 55] [.rs 32 os, .rs 55 hs] 0), (3, .rp [.int .i64, .int .i64] [.i .i64 u, .i .i64 v] 0), (4, .b t4'), (7, .i .i64 t7)], m := [], nx := 0, nt := 75 }
noncomputable def o54b_1 (os hs : List (List AV)) (u v : Int) (t4 : Bool) (t7 : Int) : St :=
  { t := [(2, .rp [.sl 32, .sl 55] [.rs 32 os, .rs 55 hs] 0), (3, .rp [.int .i64, .int .i64] [.i .i64 u, .i .i64 v] 0), (4, .b t4), (7, .i .i64 t7)], m := [], nx := 0, nt := 75 }
noncomputable def ou54b (os hs : List (List AV)) (u v : Int) (t4 : Bool) : T54b → Ex × St
  | .x0 t4' t7 => (.ret, o54b_0 os hs u v t4 t4' t7)
  | .x1 t7 => (.ext 2, o54b_1 os hs u v t4 t7)
noncomputable def r54b (os hs : List (List AV)) (u v : Int) (t4 : Bool) (t7 : Int) : Option T54b := run (fun x => stp54b os hs u v t4 x.t7) (⟨t7⟩ : S54b)
noncomputable def i54b_0 (os hs : List (List AV)) (u v : Int) (t4 : Bool) (t7 : Int) : Bool := match r54b os hs u v t4 t7 with
  | some (.x0 _ _) => true
  | _ => false
noncomputable def v54b_0_t4' (os hs : List (List AV)) (u v : Int) (t4 : Bool) (t7 : Int) : Bool := match r54b os hs u v t4 t7 with
  | some (.x0 t4' _) => t4'
  | _ => default
noncomputable def v54b_0_t7 (os hs : List (List AV)) (u v : Int) (t4 : Bool) (t7 : Int) : Int := match r54b os hs u v t4 t7 with
  | some (.x0 _ t7) => t7
  | _ => default
noncomputable def i54b_1 (os hs : List (List AV)) (u v : Int) (t4 : Bool) (t7 : Int) : Bool := match r54b os hs u v t4 t7 with
  | some (.x1 _) => true
  | _ => false
noncomputable def v54b_1_t7 (os hs : List (List AV)) (u v : Int) (t4 : Bool) (t7 : Int) : Int := match r54b os hs u v t4 t7 with
  | some (.x1 t7) => t7
  | _ => default
noncomputable def q54b (os hs : List (List AV)) (u v : Int) (t4 : Bool) (t7 : Int) : List (Bool × Ex × St) := [(i54b_0 os hs u v t4 t7, .ret, o54b_0 os hs u v t4 (v54b_0_t4' os hs u v t4 t7) (v54b_0_t7 os hs u v t4 t7)), (i54b_1 os hs u v t4 t7, .ext 2, o54b_1 os hs u v t4 (v54b_1_t7 os hs u v t4 t7))]
noncomputable def l54b (st : St) : Option (List (Bool × Ex × St)) := qget [.rp [.sl 32, .sl 55] [.rs 32, .rs 55] 0, .rp [.int .i64, .int .i64] [.i .i64, .i .i64] 0, .b, .i .i64] [] 0 75 (normW Try.prog [(2, none), (3, none), (4, none), (7, none)] 0 st) fun ls => q54b (lLL ls 0) (lLL ls 1) (lI ls 2) (lI ls 3) (lB ls 4) (lI ls 5)
noncomputable def L54 : LSpec := fun p st => match p with
  | [false, true, false, true, true] => l54a st
  | [false, true, false, true, true, true] => l54b st
  | _ => none
theorem is54a_0 (os hs : List (List AV)) (u v : Int) (t4 : Bool) (t5 t6 : Int) (h : i54a_0 os hs u v t4 t5 t6 = true) : r54a os hs u v t4 t5 t6 = some (.x0 (v54a_0_t4' os hs u v t4 t5 t6) (v54a_0_t6 os hs u v t4 t5 t6)) := by
  unfold i54a_0 at h
  unfold v54a_0_t4' v54a_0_t6
  generalize r54a os hs u v t4 t5 t6 = r at h ⊢
  rcases r with _ | y
  · cases h
  · cases y <;> first | rfl | cases h
theorem is54a_1 (os hs : List (List AV)) (u v : Int) (t4 : Bool) (t5 t6 : Int) (h : i54a_1 os hs u v t4 t5 t6 = true) : r54a os hs u v t4 t5 t6 = some (.x1 (v54a_1_t6 os hs u v t4 t5 t6)) := by
  unfold i54a_1 at h
  unfold v54a_1_t6
  generalize r54a os hs u v t4 t5 t6 = r at h ⊢
  rcases r with _ | y
  · cases h
  · cases y <;> first | rfl | cases h
theorem round54a (os hs : List (List AV)) (u v : Int) (t4 : Bool) (t5 t6 : Int) : round Try.prog SW1 (ro 54) L54 lp54a [false, true, false, true, true] [(2, none), (3, none), (4, none), (5, none), (6, none)] 0 (s54a os hs u v t4 t5 t6) =
    cond (decide (t6 < t5)) (cond (inb t6 os.length) (cond (decide (t5 = 0)) (none) (cond (inb ((IntKind.i64.wrap (t6 + 1)).tmod t5) os.length) (cond (decide (w63_0 (fI (os.getD t6.toNat []) 0) (fI (os.getD t6.toNat []) 1) (fI (os.getD ((IntKind.i64.wrap (t6 + 1)).tmod t5).toNat []) 0) (fI (os.getD ((IntKind.i64.wrap (t6 + 1)).tmod t5).toNat []) 1) u v < 0)) (some (.ret, o54a_0 os hs u v t4 t5 false t6)) (some (.nrm, s54a os hs u v t4 t5 (IntKind.i64.wrap (t6 + 1))))) (none))) (none)) (some (.ext 0, o54a_1 os hs u v t4 t5 t6)) := by kernel_rfl
theorem rnd54a (os hs : List (List AV)) (u v : Int) (t4 : Bool) (t5 : Int) (x : S54a) : round Try.prog SW1 (ro 54) L54 lp54a [false, true, false, true, true] [(2, none), (3, none), (4, none), (5, none), (6, none)] 0 ((fun x => s54a os hs u v t4 t5 x.t6) x) = toR (fun x => s54a os hs u v t4 t5 x.t6) (ou54a os hs u v t4 t5) (stp54a os hs u v t4 t5 x.t6) := by
  refine (round54a _ _ _ _ _ _ _ ).trans ?_
  unfold stp54a
  simp only [toR_cond]
  rfl
theorem lokb54a (os hs : List (List AV)) (u v : Int) (t4 : Bool) (t5 t6 : Int) {e : Ex} {s : St} (hch : Chosen (q54a os hs u v t4 t5 t6) e s) : LB Try.prog SW1 (ro 54) L54 lp54a [false, true, false, true, true] [(2, none), (3, none), (4, none), (5, none), (6, none)] 0 (s54a os hs u v t4 t5 t6) e s := by
  unfold q54a at hch
  have main := fun y h => LB_run (x := (⟨t6⟩ : S54a)) (y := y) (nb := 0) (fun y => by cases y <;> simp [ou54a]) (rnd54a os hs u v t4 t5) h
  obtain ⟨x, hx, hg, rfl, rfl⟩ := chosen_any hch
  simp only [List.mem_cons, List.not_mem_nil, or_false] at hx
  rcases hx with rfl | rfl
  · exact main _ (is54a_0 os hs u v t4 t5 t6 hg)
  · exact main _ (is54a_1 os hs u v t4 t5 t6 hg)
theorem lok54a {st : St} {outs : List (Bool × Ex × St)} {e : Ex} {s : St} (hl : l54a st = some outs) (hch : Chosen outs e s) :
    ∃ keep nb, 0 ≤ nb ∧ LB Try.prog SW1 (ro 54) L54 lp54a [false, true, false, true, true] keep nb st e s := by
  unfold l54a at hl
  obtain ⟨ls, hno, rfl⟩ := qget_some hl
  have hno := normW_norm hno
  refine ⟨_, _, ?_, .enterQ hno (s2 := s54a (lLL ls 0) (lLL ls 1) (lI ls 2) (lI ls 3) (lB ls 4) (lI ls 5) (lI ls 6)) (by kernel_rfl) (lokb54a _ _ _ _ _ _ _ hch)⟩
  decide
theorem is54b_0 (os hs : List (List AV)) (u v : Int) (t4 : Bool) (t7 : Int) (h : i54b_0 os hs u v t4 t7 = true) : r54b os hs u v t4 t7 = some (.x0 (v54b_0_t4' os hs u v t4 t7) (v54b_0_t7 os hs u v t4 t7)) := by
  unfold i54b_0 at h
  unfold v54b_0_t4' v54b_0_t7
  generalize r54b os hs u v t4 t7 = r at h ⊢
  rcases r with _ | y
  · cases h
  · cases y <;> first | rfl | cases h
theorem is54b_1 (os hs : List (List AV)) (u v : Int) (t4 : Bool) (t7 : Int) (h : i54b_1 os hs u v t4 t7 = true) : r54b os hs u v t4 t7 = some (.x1 (v54b_1_t7 os hs u v t4 t7)) := by
  unfold i54b_1 at h
  unfold v54b_1_t7
  generalize r54b os hs u v t4 t7 = r at h ⊢
  rcases r with _ | y
  · cases h
  · cases y <;> first | rfl | cases h
theorem round54b (os hs : List (List AV)) (u v : Int) (t4 : Bool) (t7 : Int) : round Try.prog SW1 (ro 54) L54 lp54b [false, true, false, true, true, true] [(2, none), (3, none), (4, none), (7, none)] 0 (s54b os hs u v t4 t7) =
    cond (decide (t7 < (↑hs.length : Int))) (cond (inb t7 hs.length) (cond (decide (u > fI (hs.getD t7.toNat []) 0)) (cond (decide (u < fI (hs.getD t7.toNat []) 2)) (cond (decide (v > fI (hs.getD t7.toNat []) 1)) (cond (decide (v < fI (hs.getD t7.toNat []) 3)) (some (.ret, o54b_0 os hs u v t4 false t7)) (some (.nrm, s54b os hs u v t4 (IntKind.i64.wrap (t7 + 1))))) (some (.nrm, s54b os hs u v t4 (IntKind.i64.wrap (t7 + 1))))) (some (.nrm, s54b os hs u v t4 (IntKind.i64.wrap (t7 + 1))))) (some (.nrm, s54b os hs u v t4 (IntKind.i64.wrap (t7 + 1))))) (none)) (some (.ext 2, o54b_1 os hs u v t4 t7)) := by kernel_rfl
theorem rnd54b (os hs : List (List AV)) (u v : Int) (t4 : Bool) (x : S54b) : round Try.prog SW1 (ro 54) L54 lp54b [false, true, false, true, true, true] [(2, none), (3, none), (4, none), (7, none)] 0 ((fun x => s54b os hs u v t4 x.t7) x) = toR (fun x => s54b os hs u v t4 x.t7) (ou54b os hs u v t4) (stp54b os hs u v t4 x.t7) := by
  refine (round54b _ _ _ _ _ _ ).trans ?_
  unfold stp54b
  simp only [toR_cond]
  rfl
theorem lokb54b (os hs : List (List AV)) (u v : Int) (t4 : Bool) (t7 : Int) {e : Ex} {s : St} (hch : Chosen (q54b os hs u v t4 t7) e s) : LB Try.prog SW1 (ro 54) L54 lp54b [false, true, false, true, true, true] [(2, none), (3, none), (4, none), (7, none)] 0 (s54b os hs u v t4 t7) e s := by
  unfold q54b at hch
  have main := fun y h => LB_run (x := (⟨t7⟩ : S54b)) (y := y) (nb := 0) (fun y => by cases y <;> simp [ou54b]) (rnd54b os hs u v t4) h
  obtain ⟨x, hx, hg, rfl, rfl⟩ := chosen_any hch
  simp only [List.mem_cons, List.not_mem_nil, or_false] at hx
  rcases hx with rfl | rfl
  · exact main _ (is54b_0 os hs u v t4 t7 hg)
  · exact main _ (is54b_1 os hs u v t4 t7 hg)
theorem lok54b {st : St} {outs : List (Bool × Ex × St)} {e : Ex} {s : St} (hl : l54b st = some outs) (hch : Chosen outs e s) :
    ∃ keep nb, 0 ≤ nb ∧ LB Try.prog SW1 (ro 54) L54 lp54b [false, true, false, true, true, true] keep nb st e s := by
  unfold l54b at hl
  obtain ⟨ls, hno, rfl⟩ := qget_some hl
  have hno := normW_norm hno
  refine ⟨_, _, ?_, .enterQ hno (s2 := s54b (lLL ls 0) (lLL ls 1) (lI ls 2) (lI ls 3) (lB ls 4) (lI ls 5)) (by kernel_rfl) (lokb54b _ _ _ _ _ _ hch)⟩
  decide
theorem L54_ok (q : Pl) (c : Code) (hq : locate c54 q.reverse = some (.loop c)) (st : St) (outs : List (Bool × Ex × St)) (e : Ex) (s : St) (hl : L54 q st = some outs) (hch : Chosen outs e s) :
    ∃ keep nb, 0 ≤ nb ∧ LB Try.prog SW1 (ro 54) L54 c q keep nb st e s := by
  unfold L54 at hl
  split at hl
  · have : locate c54 ([false, true, false, true, true] : Pl).reverse = some (.loop lp54a) := by kernel_rfl
    rw [this] at hq
    cases hq
    exact lok54a hl hch
  · have : locate c54 ([false, true, false, true, true, true] : Pl).reverse = some (.loop lp54b) := by kernel_rfl
    rw [this] at hq
    cases hq
    exact lok54b hl hch
  · cases hl
theorem lok54 : LOK Try.prog SW1 (ro 54) L54 0 false c54 [] :=
  lok_lo L54_ok c54 [] false (locate_nil _) (by kernel_rfl)
noncomputable def t54 (os hs : List (List AV)) (u v : Int) : Tr ((Bool)) :=
  .cn (i54a_0 os hs u v false (↑os.length : Int) 0) (.lf (v54a_0_t4' os hs u v false (↑os.length : Int) 0)) (.cn (i54a_1 os hs u v false (↑os.length : Int) 0) (.cn (i54b_0 os hs u v false 0) (.lf (v54b_0_t4' os hs u v false 0)) (.cn (i54b_1 os hs u v false 0) (.lf (true)) (.nn))) (.nn))
noncomputable def g54 (os hs : List (List AV)) (u v : Int) : Bool := (t54 os hs u v).g
noncomputable def w54_0 (os hs : List (List AV)) (u v : Int) : Bool := (t54 os hs u v).val
theorem eq54 (os hs : List (List AV)) (u v : Int) : evF Try.prog SW1 (ro 54) L54 Try.f54 [.agg [.rs 32 os, .rs 55 hs], .agg [.i .i64 u, .i .i64 v]] = (t54 os hs u v).opt (fun (x : (Bool)) => (.b x : AV)) := by kernel_rfl
theorem con54 (os hs : List (List AV)) (u v : Int) (h : g54 os hs u v = true) : Con Try.prog 54 [.agg [.rs 32 os, .rs 55 hs], .agg [.i .i64 u, .i .i64 v]] [] (.b (w54_0 os hs u v)) [] :=
  con_of SW1_ok mixed Try.func54 (c := c54) rfl (names 54 _ Try.func54) lok54 ((eq54 os hs u v).trans (Tr.sound _ _ h))
noncomputable def e54 (args : List AV) (rows : List Blk) : Option (Bool × AV × List Blk) := match args, rows with
  | [.agg [.rs 32 os, .rs 55 hs], .agg [.i .i64 u, .i .i64 v]], [] => some (g54 os hs u v, .b (w54_0 os hs u v), [])
  | _, _ => none
theorem e54_ok (args : List AV) (rows : List Blk) (pre : Bool) (v : AV) (rows' : List Blk) (h : e54 args rows = some (pre, v, rows')) (hp : pre = true) : Con Try.prog 54 args rows v rows' := by
  unfold e54 at h
  split at h
  · cases h; exact con54 _ _ _ _ hp
  · cases h
-- SPEC 54
end Go.Proofs.Ytoglnllbopcejaa

set_option maxRecDepth 100000
set_option maxHeartbeats 0
set_option linter.unusedVariables false
namespace Go.Proofs.Ytoglnllbopcejaa
open Go Go.Ev

noncomputable def c51 : Code := match Try.f51.body with | some c => c | _ => .skip
noncomputable def lp51a : Code := loopAt c51 [true, true, true, false, true, false]
noncomputable def s51a (os : List (List AV)) (t2 t3 t4 : Int) : St :=
  { t := [(0, .rs 32 os), (2, .i .i64 t2), (3, .i .i64 t3), (4, .i .i64 t4)], m := [], nx := 0, nt := 135 }
structure S51a where
  t4 : Int
inductive T51a where
  | x0 (t2' : Int) (t4 : Int)
  | x1 (t4 : Int)
noncomputable def stp51a (os : List (List AV)) (t2 t3 t4 : Int) : Lp S51a T51a :=
  cond (decide (t4 < t3)) (cond (inb t4 os.length) (cond (g30 (fI (os.getD t4.toNat []) 0) 0 400) (cond (!w30_0 (fI (os.getD t4.toNat []) 0) 0 400) (.out (.x0 1 t4)) (cond (inb t4 os.length) (cond (g30 (fI (os.getD t4.toNat []) 1) 0 400) (cond (!w30_0 (fI (os.getD t4.toNat []) 1) 0 400) (.out (.x0 1 t4)) (.go ⟨IntKind.i64.wrap (t4 + 1)⟩)) (.bad)) (.bad))) (.bad)) (.bad)) (.out (.x1 t4))
noncomputable def o51a_0 (os : List (List AV)) (t2 t3 t2' t4 : Int) : St :=
  { t := [(0, .rs 32 os), (2, .i .i64 t2'), (3, .i .i64 t3), (4, .i .i64 t4)], m := [], nx := 0, nt := 135 }
noncomputable def o51a_1 (os : List (List AV)) (t2 t3 t4 : Int) : St :=
  { t := [(0, .rs 32 os), (2, .i .i64 t2), (3, .i .i64 t3), (4, .i .i64 t4)], m := [], nx := 0, nt := 135 }
noncomputable def ou51a (os : List (List AV)) (t2 t3 : Int) : T51a → Ex × St
  | .x0 t2' t4 => (.ret, o51a_0 os t2 t3 t2' t4)
  | .x1 t4 => (.ext 0, o51a_1 os t2 t3 t4)
noncomputable def r51a (os : List (List AV)) (t2 t3 t4 : Int) : Option T51a := run (fun x => stp51a os t2 t3 x.t4) (⟨t4⟩ : S51a)
noncomputable def i51a_0 (os : List (List AV)) (t2 t3 t4 : Int) : Bool := match r51a os t2 t3 t4 with
  | some (.x0 _ _) => true
  | _ => false
noncomputable def v51a_0_t2' (os : List (List AV)) (t2 t3 t4 : Int) : Int := match r51a os t2 t3 t4 with
  | some (.x0 t2' _) => t2'
  | _ => default
noncomputable def v51a_0_t4 (os : List (List AV)) (t2 t3 t4 : Int) : Int := match r51a os t2 t3 t4 with
  | some (.x0 _ t4) => t4
  | _ => default
noncomputable def i51a_1 (os : List (List AV)) (t2 t3 t4 : Int) : Bool := match r51a os t2 t3 t4 with
  | some (.x1 _) => true
  | _ => false
noncomputable def v51a_1_t4 (os : List (List AV)) (t2 t3 t4 : Int) : Int := match r51a os t2 t3 t4 with
  | some (.x1 t4) => t4
  | _ => default
noncomputable def q51a (os : List (List AV)) (t2 t3 t4 : Int) : List (Bool × Ex × St) := [(i51a_0 os t2 t3 t4, .ret, o51a_0 os t2 t3 (v51a_0_t2' os t2 t3 t4) (v51a_0_t4 os t2 t3 t4)), (i51a_1 os t2 t3 t4, .ext 0, o51a_1 os t2 t3 (v51a_1_t4 os t2 t3 t4))]
noncomputable def l51a (st : St) : Option (List (Bool × Ex × St)) := qget [.rs 32, .i .i64, .i .i64, .i .i64] [] 0 135 (normW Try.prog [(0, none), (2, none), (3, none), (4, none)] 0 st) fun ls => q51a (lLL ls 0) (lI ls 1) (lI ls 2) (lI ls 3)
noncomputable def lp51b : Code := loopAt c51 [true, true, true, true, false, true, false]
noncomputable def s51b (os : List (List AV)) (t2 t3 t5 : Int) : St :=
  { t := [(0, .rs 32 os), (2, .i .i64 t2), (3, .i .i64 t3), (5, .i .i64 t5)], m := [], nx := 0, nt := 135 }
noncomputable def lp51ba : Code := loopAt c51 [true, true, true, true, false, true, false, false, true, false, false, true, false]
noncomputable def s51ba (os : List (List AV)) (t2 t3 t5 t6 : Int) : St :=
  { t := [(0, .rs 32 os), (2, .i .i64 t2), (3, .i .i64 t3), (5, .i .i64 t5), (6, .i .i64 t6)], m := [], nx := 0, nt := 135 }
structure S51ba where
  t6 : Int
inductive T51ba where
  | x0 (t2' : Int) (t6 : Int)
  | x1 (t6 : Int)
noncomputable def stp51ba (os : List (List AV)) (t2 t3 t5 t6 : Int) : Lp S51ba T51ba :=
  cond (decide (t6 < t5)) (cond (inb t5 os.length) (cond (inb t6 os.length) (cond (fI (os.getD t5.toNat []) 0 == fI (os.getD t6.toNat []) 0 && fI (os.getD t5.toNat []) 1 == fI (os.getD t6.toNat []) 1) (.out (.x0 6 t6)) (.go ⟨IntKind.i64.wrap (t6 + 1)⟩)) (.bad)) (.bad)) (.out (.x1 t6))
noncomputable def o51ba_0 (os : List (List AV)) (t2 t3 t5 t2' t6 : Int) : St :=
  { t := [(0, .rs 32 os), (2, .i .i64 t2'), (3, .i .i64 t3), (5, .i .i64 t5), (6, .i .i64 t6)], m := [], nx := 0, nt := 135 }
noncomputable def o51ba_1 (os : List (List AV)) (t2 t3 t5 t6 : Int) : St :=
  { t := [(0, .rs 32 os), (2, .i .i64 t2), (3, .i .i64 t3), (5, .i .i64 t5), (6, .i .i64 t6)], m := [], nx := 0, nt := 135 }
noncomputable def ou51ba (os : List (List AV)) (t2 t3 t5 : Int) : T51ba → Ex × St
  | .x0 t2' t6 => (.ret, o51ba_0 os t2 t3 t5 t2' t6)
  | .x1 t6 => (.ext 4, o51ba_1 os t2 t3 t5 t6)
noncomputable def r51ba (os : List (List AV)) (t2 t3 t5 t6 : Int) : Option T51ba := run (fun x => stp51ba os t2 t3 t5 x.t6) (⟨t6⟩ : S51ba)
noncomputable def i51ba_0 (os : List (List AV)) (t2 t3 t5 t6 : Int) : Bool := match r51ba os t2 t3 t5 t6 with
  | some (.x0 _ _) => true
  | _ => false
noncomputable def v51ba_0_t2' (os : List (List AV)) (t2 t3 t5 t6 : Int) : Int := match r51ba os t2 t3 t5 t6 with
  | some (.x0 t2' _) => t2'
  | _ => default
noncomputable def v51ba_0_t6 (os : List (List AV)) (t2 t3 t5 t6 : Int) : Int := match r51ba os t2 t3 t5 t6 with
  | some (.x0 _ t6) => t6
  | _ => default
noncomputable def i51ba_1 (os : List (List AV)) (t2 t3 t5 t6 : Int) : Bool := match r51ba os t2 t3 t5 t6 with
  | some (.x1 _) => true
  | _ => false
noncomputable def v51ba_1_t6 (os : List (List AV)) (t2 t3 t5 t6 : Int) : Int := match r51ba os t2 t3 t5 t6 with
  | some (.x1 t6) => t6
  | _ => default
noncomputable def q51ba (os : List (List AV)) (t2 t3 t5 t6 : Int) : List (Bool × Ex × St) := [(i51ba_0 os t2 t3 t5 t6, .ret, o51ba_0 os t2 t3 t5 (v51ba_0_t2' os t2 t3 t5 t6) (v51ba_0_t6 os t2 t3 t5 t6)), (i51ba_1 os t2 t3 t5 t6, .ext 4, o51ba_1 os t2 t3 t5 (v51ba_1_t6 os t2 t3 t5 t6))]
noncomputable def l51ba (st : St) : Option (List (Bool × Ex × St)) := qget [.rs 32, .i .i64, .i .i64, .i .i64, .i .i64] [] 0 135 (normW Try.prog [(0, none), (2, none), (3, none), (5, none), (6, none)] 0 st) fun ls => q51ba (lLL ls 0) (lI ls 1) (lI ls 2) (lI ls 3) (lI ls 4)
structure S51b where
  t5 : Int
inductive T51b where
  | x0 (t2' : Int) (t5 : Int)
  | x1 (t5 : Int)
noncomputable def stp51b (os : List (List AV)) (t2 t3 t5 : Int) : Lp S51b T51b :=
  cond (decide (t5 < t3)) (cond (i51ba_0 os t2 t3 t5 0) (.out (.x0 (v51ba_0_t2' os t2 t3 t5 0) t5)) (cond (i51ba_1 os t2 t3 t5 0) (.go ⟨IntKind.i64.wrap (t5 + 1)⟩) (.bad))) (.out (.x1 t5))
noncomputable def o51b_0 (os : List (List AV)) (t2 t3 t2' t5 : Int) : St :=
  { t := [(0, .rs 32 os), (2, .i .i64 t2'), (3, .i .i64 t3), (5, .i .i64 t5)], m := [], nx := 0, nt := 135 }
noncomputable def o51b_1 (os : List (List AV)) (t2 t3 t5 : Int) : St :=
  { t := [(0, .rs 32 os), (2, .i .i64 t2), (3, .i .i64 t3), (5, .i .i64 t5)], m := [], nx := 0, nt := 135 }
noncomputable def ou51b (os : List (List AV)) (t2 t3 : Int) : T51b → Ex × St
  | .x0 t2' t5 => (.ret, o51b_0 os t2 t3 t2' t5)
  | .x1 t5 => (.ext 2, o51b_1 os t2 t3 t5)
noncomputable def r51b (os : List (List AV)) (t2 t3 t5 : Int) : Option T51b := run (fun x => stp51b os t2 t3 x.t5) (⟨t5⟩ : S51b)
noncomputable def i51b_0 (os : List (List AV)) (t2 t3 t5 : Int) : Bool := match r51b os t2 t3 t5 with
  | some (.x0 _ _) => true
  | _ => false
noncomputable def v51b_0_t2' (os : List (List AV)) (t2 t3 t5 : Int) : Int := match r51b os t2 t3 t5 with
  | some (.x0 t2' _) => t2'
  | _ => default
noncomputable def v51b_0_t5 (os : List (List AV)) (t2 t3 t5 : Int) : Int := match r51b os t2 t3 t5 with
  | some (.x0 _ t5) => t5
  | _ => default
noncomputable def i51b_1 (os : List (List AV)) (t2 t3 t5 : Int) : Bool := match r51b os t2 t3 t5 with
  | some (.x1 _) => true
  | _ => false
noncomputable def v51b_1_t5 (os : List (List AV)) (t2 t3 t5 : Int) : Int := match r51b os t2 t3 t5 with
  | some (.x1 t5) => t5
  | _ => default
noncomputable def q51b (os : List (List AV)) (t2 t3 t5 : Int) : List (Bool × Ex × St) := [(i51b_0 os t2 t3 t5, .ret, o51b_0 os t2 t3 (v51b_0_t2' os t2 t3 t5) (v51b_0_t5 os t2 t3 t5)), (i51b_1 os t2 t3 t5, .ext 2, o51b_1 os t2 t3 (v51b_1_t5 os t2 t3 t5))]
noncomputable def l51b (st : St) : Option (List (Bool × Ex × St)) := qget [.rs 32, .i .i64, .i .i64, .i .i64] [] 0 135 (normW Try.prog [(0, none), (2, none), (3, none), (5, none)] 0 st) fun ls => q51b (lLL ls 0) (lI ls 1) (lI ls 2) (lI ls 3)
noncomputable def lp51c : Code := loopAt c51 [true, true, true, true, true, true, false, true, false]
noncomputable def s51c (os : List (List AV)) (t2 t3 t7 t8 : Int) : St :=
  { t := [(0, .rs 32 os), (2, .i .i64 t2), (3, .i .i64 t3), (7, .i .i64 t7), (8, .i .i64 t8)], m := [], nx := 0, nt := 135 }
noncomputable def lp51ca : Code := loopAt c51 [true, true, true, true, true, true, false, true, false, false, true, false, false, true, false, true, false]
noncomputable def s51ca (os : List (List AV)) (t2 t3 t7 t8 t12 m21_0 m21_1 m22_0 m22_1 m23_0 m23_1 : Int) : St :=
  { t := [(0, .rs 32 os), (2, .i .i64 t2), (3, .i .i64 t3), (7, .i .i64 t7), (8, .i .i64 t8), (9, .p 21 0 0), (10, .p 22 0 0), (11, .p 23 0 0), (12, .i .i64 t12)], m := [(0, .dead), (1, .dead), (2, .dead), (3, .dead), (4, .dead), (5, .dead), (6, .dead), (7, .dead), (8, .dead), (9, .dead), (10, .dead), (11, .dead), (12, .dead), (13, .dead), (14, .dead), (15, .dead), (16, .dead), (17, .dead), (18, .dead), (19, .dead), (20, .dead), (21, .row 32 [[.i .i64 m21_0, .i .i64 m21_1]]), (22, .row 32 [[.i .i64 m22_0, .i .i64 m22_1]]), (23, .row 32 [[.i .i64 m23_0, .i .i64 m23_1]])], nx := 24, nt := 135 }
structure S51ca where
  t12 : Int
inductive T51ca where
  | x0 (t2' : Int) (t12 : Int)
  | x1 (t12 : Int)
noncomputable def stp51ca (os : List (List AV)) (t2 t3 t7 t8 m21_0 m21_1 m22_0 m22_1 m23_0 m23_1 t12 : Int) : Lp S51ca T51ca :=
  cond (decide (t12 < t3)) (cond (inb t12 os.length) (cond (decide (w63_0 m21_0 m21_1 m22_0 m22_1 (fI (os.getD t12.toNat []) 0) (fI (os.getD t12.toNat []) 1) < 0)) (.out (.x0 9 t12)) (.go ⟨IntKind.i64.wrap (t12 + 1)⟩)) (.bad)) (.out (.x1 t12))
noncomputable def o51ca_0 (os : List (List AV)) (t2 t3 t7 t8 m21_0 m21_1 m22_0 m22_1 m23_0 m23_1 t2' t12 : Int) : St :=
  { t := [(0, .rs 32 os), (2, .i .i64 t2'), (3, .i .i64 t3), (7, .i .i64 t7), (8, .i .i64 t8), (9, .p 21 0 0), (10, .p 22 0 0), (11, .p 23 0 0), (12, .i .i64 t12)], m := [(0, .dead), (1, .dead), (2, .dead), (3, .dead), (4, .dead), (5, .dead), (6, .dead), (7, .dead), (8, .dead), (9, .dead), (10, .dead), (11, .dead), (12, .dead), (13, .dead), (14, .dead), (15, .dead), (16, .dead), (17, .dead), (18, .dead), (19, .dead), (20, .dead), (21, .row 32 [[.i .i64 m21_0, .i .i64 m21_1]]), (22, .row 32 [[.i .i64 m22_0, .i .i64 m22_1]]), (23, .row 32 [[.i .i64 m23_0, .i .i64 m23_1]])], nx := 24, nt := 135 }
noncomputable def o51ca_1 (os : List (List AV)) (t2 t3 t7 t8 m21_0 m21_1 m22_0 m22_1 m23_0 m23_1 t12 : Int) : St :=
  { t := [(0, .rs 32 os), (2, .i .i64 t2), (3, .i .i64 t3), (7, .i .i64 t7), (8, .i .i64 t8), (9, .p 21 0 0), (10, .p 22 0 0), (11, .p 23 0 0), (12, .i .i64 t12)], m := [(0, .dead), (1, .dead), (2, .dead), (3, .dead), (4, .dead), (5, .dead), (6, .dead), (7, .dead), (8, .dead), (9, .dead), (10, .dead), (11, .dead), (12, .dead), (13, .dead), (14, .dead), (15, .dead), (16, .dead), (17, .dead), (18, .dead), (19, .dead), (20, .dead), (21, .row 32 [[.i .i64 m21_0, .i .i64 m21_1]]), (22, .row 32 [[.i .i64 m22_0, .i .i64 m22_1]]), (23, .row 32 [[.i .i64 m23_0, .i .i64 m23_1]])], nx := 24, nt := 135 }
noncomputable def ou51ca (os : List (List AV)) (t2 t3 t7 t8 m21_0 m21_1 m22_0 m22_1 m23_0 m23_1 : Int) : T51ca → Ex × St
  | .x0 t2' t12 => (.ret, o51ca_0 os t2 t3 t7 t8 m21_0 m21_1 m22_0 m22_1 m23_0 m23_1 t2' t12)
  | .x1 t12 => (.ext 8, o51ca_1 os t2 t3 t7 t8 m21_0 m21_1 m22_0 m22_1 m23_0 m23_1 t12)
noncomputable def r51ca (os : List (List AV)) (t2 t3 t7 t8 m21_0 m21_1 m22_0 m22_1 m23_0 m23_1 t12 : Int) : Option T51ca := run (fun x => stp51ca os t2 t3 t7 t8 m21_0 m21_1 m22_0 m22_1 m23_0 m23_1 x.t12) (⟨t12⟩ : S51ca)
noncomputable def i51ca_0 (os : List (List AV)) (t2 t3 t7 t8 m21_0 m21_1 m22_0 m22_1 m23_0 m23_1 t12 : Int) : Bool := match r51ca os t2 t3 t7 t8 m21_0 m21_1 m22_0 m22_1 m23_0 m23_1 t12 with
  | some (.x0 _ _) => true
  | _ => false
noncomputable def v51ca_0_t2' (os : List (List AV)) (t2 t3 t7 t8 m21_0 m21_1 m22_0 m22_1 m23_0 m23_1 t12 : Int) : Int := match r51ca os t2 t3 t7 t8 m21_0 m21_1 m22_0 m22_1 m23_0 m23_1 t12 with
  | some (.x0 t2' _) => t2'
  | _ => default
noncomputable def v51ca_0_t12 (os : List (List AV)) (t2 t3 t7 t8 m21_0 m21_1 m22_0 m22_1 m23_0 m23_1 t12 : Int) : Int := match r51ca os t2 t3 t7 t8 m21_0 m21_1 m22_0 m22_1 m23_0 m23_1 t12 with
  | some (.x0 _ t12) => t12
  | _ => default
noncomputable def i51ca_1 (os : List (List AV)) (t2 t3 t7 t8 m21_0 m21_1 m22_0 m22_1 m23_0 m23_1 t12 : Int) : Bool := match r51ca os t2 t3 t7 t8 m21_0 m21_1 m22_0 m22_1 m23_0 m23_1 t12 with
  | some (.x1 _) => true
  | _ => false
noncomputable def v51ca_1_t12 (os : List (List AV)) (t2 t3 t7 t8 m21_0 m21_1 m22_0 m22_1 m23_0 m23_1 t12 : Int) : Int := match r51ca os t2 t3 t7 t8 m21_0 m21_1 m22_0 m22_1 m23_0 m23_1 t12 with
  | some (.x1 t12) => t12
  | _ => default
noncomputable def q51ca (os : List (List AV)) (t2 t3 t7 t8 t12 m21_0 m21_1 m22_0 m22_1 m23_0 m23_1 : Int) : List (Bool × Ex × St) := [(i51ca_0 os t2 t3 t7 t8 m21_0 m21_1 m22_0 m22_1 m23_0 m23_1 t12, .ret, o51ca_0 os t2 t3 t7 t8 m21_0 m21_1 m22_0 m22_1 m23_0 m23_1 (v51ca_0_t2' os t2 t3 t7 t8 m21_0 m21_1 m22_0 m22_1 m23_0 m23_1 t12) (v51ca_0_t12 os t2 t3 t7 t8 m21_0 m21_1 m22_0 m22_1 m23_0 m23_1 t12)), (i51ca_1 os t2 t3 t7 t8 m21_0 m21_1 m22_0 m22_1 m23_0 m23_1 t12, .ext 8, o51ca_1 os t2 t3 t7 t8 m21_0 m21_1 m22_0 m22_1 m23_0 m23_1 (v51ca_1_t12 os t2 t3 t7 t8 m21_0 m21_1 m22_0 m22_1 m23_0 m23_1 t12))]
noncomputable def l51ca (st : St) : Option (List (Bool × Ex × St)) := qget [.rs 32, .i .i64, .i .i64, .i .i64, .i .i64, .p 21 0 0, .p 22 0 0, .p 23 0 0, .i .i64] [(0, .dead), (1, .dead), (2, .dead), (3, .dead), (4, .dead), (5, .dead), (6, .dead), (7, .dead), (8, .dead), (9, .dead), (10, .dead), (11, .dead), (12, .dead), (13, .dead), (14, .dead), (15, .dead), (16, .dead), (17, .dead), (18, .dead), (19, .dead), (20, .dead), (21, .row 32 [.l [.i .i64, .i .i64]]), (22, .row 32 [.l [.i .i64, .i .i64]]), (23, .row 32 [.l [.i .i64, .i .i64]])] 24 135 (normW Try.prog [(0, none), (2, none), (3, none), (7, none), (8, none), (9, none), (10, none), (11, none), (12, none)] 24 st) fun ls => q51ca (lLL ls 0) (lI ls 1) (lI ls 2) (lI ls 3) (lI ls 4) (lI ls 5) (lI ls 6) (lI ls 7) (lI ls 8) (lI ls 9) (lI ls 10) (lI ls 11)
structure S51c where
  t7 : Int
  t8 : Int
inductive T51c where
  | x0 (t2' : Int) (t7 : Int) (t8 : Int)
  | x1 (t7 : Int) (t8 : Int)
noncomputable def stp51c (os : List (List AV)) (t2 t3 t7 t8 : Int) : Lp S51c T51c :=
  cond (decide (t8 < t3)) (cond (inb t8 os.length) (cond (decide (t3 = 0)) (.bad) (cond (inb ((IntKind.i64.wrap (t8 + 1)).tmod t3) os.length) (cond (decide (t3 = 0)) (.bad) (cond (inb ((IntKind.i64.wrap (t8 + 2)).tmod t3) os.length) (cond (i51ca_0 os t2 t3 t7 t8 (fI (os.getD t8.toNat []) 0) (fI (os.getD t8.toNat []) 1) (fI (os.getD ((IntKind.i64.wrap (t8 + 1)).tmod t3).toNat []) 0) (fI (os.getD ((IntKind.i64.wrap (t8 + 1)).tmod t3).toNat []) 1) (fI (os.getD ((IntKind.i64.wrap (t8 + 2)).tmod t3).toNat []) 0) (fI (os.getD ((IntKind.i64.wrap (t8 + 2)).tmod t3).toNat []) 1) 0) (.out (.x0 (v51ca_0_t2' os t2 t3 t7 t8 (fI (os.getD t8.toNat []) 0) (fI (os.getD t8.toNat []) 1) (fI (os.getD ((IntKind.i64.wrap (t8 + 1)).tmod t3).toNat []) 0) (fI (os.getD ((IntKind.i64.wrap (t8 + 1)).tmod t3).toNat []) 1) (fI (os.getD ((IntKind.i64.wrap (t8 + 2)).tmod t3).toNat []) 0) (fI (os.getD ((IntKind.i64.wrap (t8 + 2)).tmod t3).toNat []) 1) 0) t7 t8)) (cond (i51ca_1 os t2 t3 t7 t8 (fI (os.getD t8.toNat []) 0) (fI (os.getD t8.toNat []) 1) (fI (os.getD ((IntKind.i64.wrap (t8 + 1)).tmod t3).toNat []) 0) (fI (os.getD ((IntKind.i64.wrap (t8 + 1)).tmod t3).toNat []) 1) (fI (os.getD ((IntKind.i64.wrap (t8 + 2)).tmod t3).toNat []) 0) (fI (os.getD ((IntKind.i64.wrap (t8 + 2)).tmod t3).toNat []) 1) 0) (cond (w63_0 (fI (os.getD t8.toNat []) 0) (fI (os.getD t8.toNat []) 1) (fI (os.getD ((IntKind.i64.wrap (t8 + 1)).tmod t3).toNat []) 0) (fI (os.getD ((IntKind.i64.wrap (t8 + 1)).tmod t3).toNat []) 1) (fI (os.getD ((IntKind.i64.wrap (t8 + 2)).tmod t3).toNat []) 0) (fI (os.getD ((IntKind.i64.wrap (t8 + 2)).tmod t3).toNat []) 1) == 0) (cond (decide (IntKind.i64.wrap (IntKind.i64.wrap (IntKind.i64.wrap (fI (os.getD ((IntKind.i64.wrap (t8 + 1)).tmod t3).toNat []) 0 - fI (os.getD t8.toNat []) 0) * IntKind.i64.wrap (fI (os.getD ((IntKind.i64.wrap (t8 + 2)).tmod t3).toNat []) 0 - fI (os.getD ((IntKind.i64.wrap (t8 + 1)).tmod t3).toNat []) 0)) + IntKind.i64.wrap (IntKind.i64.wrap (fI (os.getD ((IntKind.i64.wrap (t8 + 1)).tmod t3).toNat []) 1 - fI (os.getD t8.toNat []) 1) * IntKind.i64.wrap (fI (os.getD ((IntKind.i64.wrap (t8 + 2)).tmod t3).toNat []) 1 - fI (os.getD ((IntKind.i64.wrap (t8 + 1)).tmod t3).toNat []) 1))) < 0)) (.out (.x0 9 t7 t8)) (cond (inb 0 os.length) (.go ⟨IntKind.i64.wrap (t7 + w63_0 (fI (os.getD 0 []) 0) (fI (os.getD 0 []) 1) (fI (os.getD t8.toNat []) 0) (fI (os.getD t8.toNat []) 1) (fI (os.getD ((IntKind.i64.wrap (t8 + 1)).tmod t3).toNat []) 0) (fI (os.getD ((IntKind.i64.wrap (t8 + 1)).tmod t3).toNat []) 1)), IntKind.i64.wrap (t8 + 1)⟩) (.bad))) (cond (inb 0 os.length) (.go ⟨IntKind.i64.wrap (t7 + w63_0 (fI (os.getD 0 []) 0) (fI (os.getD 0 []) 1) (fI (os.getD t8.toNat []) 0) (fI (os.getD t8.toNat []) 1) (fI (os.getD ((IntKind.i64.wrap (t8 + 1)).tmod t3).toNat []) 0) (fI (os.getD ((IntKind.i64.wrap (t8 + 1)).tmod t3).toNat []) 1)), IntKind.i64.wrap (t8 + 1)⟩) (.bad))) (.bad))) (.bad))) (.bad))) (.bad)) (.out (.x1 t7 t8))
noncomputable def o51c_0 (os : List (List AV)) (t2 t3 t2' t7 t8 : Int) : St :=
  { t := [(0, .rs 32 os), (2, .i .i64 t2'), (3, .i .i64 t3), (7, .i .i64 t7), (8, .i .i64 t8)], m := [], nx := 0, nt := 135 }
noncomputable def o51c_1 (os : List (List AV)) (t2 t3 t7 t8 : Int) : St :=
  { t := [(0, .rs 32 os), (2, .i .i64 t2), (3, .i .i64 t3), (7, .i .i64 t7), (8, .i .i64 t8)], m := [], nx := 0, nt := 135 }
noncomputable def ou51c (os : List (List AV)) (t2 t3 : Int) : T51c → Ex × St
  | .x0 t2' t7 t8 => (.ret, o51c_0 os t2 t3 t2' t7 t8)
  | .x1 t7 t8 => (.ext 6, o51c_1 os t2 t3 t7 t8)
noncomputable def r51c (os : List (List AV)) (t2 t3 t7 t8 : Int) : Option T51c := run (fun x => stp51c os t2 t3 x.t7 x.t8) (⟨t7, t8⟩ : S51c)
noncomputable def i51c_0 (os : List (List AV)) (t2 t3 t7 t8 : Int) : Bool := match r51c os t2 t3 t7 t8 with
  | some (.x0 _ _ _) => true
  | _ => false
noncomputable def v51c_0_t2' (os : List (List AV)) (t2 t3 t7 t8 : Int) : Int := match r51c os t2 t3 t7 t8 with
  | some (.x0 t2' _ _) => t2'
  | _ => default
noncomputable def v51c_0_t7 (os : List (List AV)) (t2 t3 t7 t8 : Int) : Int := match r51c os t2 t3 t7 t8 with
  | some (.x0 _ t7 _) => t7
  | _ => default
noncomputable def v51c_0_t8 (os : List (List AV)) (t2 t3 t7 t8 : Int) : Int := match r51c os t2 t3 t7 t8 with
  | some (.x0 _ _ t8) => t8
  | _ => default
noncomputable def i51c_1 (os : List (List AV)) (t2 t3 t7 t8 : Int) : Bool := match r51c os t2 t3 t7 t8 with
  | some (.x1 _ _) => true
  | _ => false
noncomputable def v51c_1_t7 (os : List (List AV)) (t2 t3 t7 t8 : Int) : Int := match r51c os t2 t3 t7 t8 with
  | some (.x1 t7 _) => t7
  | _ => default
noncomputable def v51c_1_t8 (os : List (List AV)) (t2 t3 t7 t8 : Int) : Int := match r51c os t2 t3 t7 t8 with
  | some (.x1 _ t8) => t8
  | _ => default
noncomputable def q51c (os : List (List AV)) (t2 t3 t7 t8 : Int) : List (Bool × Ex × St) := [(i51c_0 os t2 t3 t7 t8, .ret, o51c_0 os t2 t3 (v51c_0_t2' os t2 t3 t7 t8) (v51c_0_t7 os t2 t3 t7 t8) (v51c_0_t8 os t2 t3 t7 t8)), (i51c_1 os t2 t3 t7 t8, .ext 6, o51c_1 os t2 t3 (v51c_1_t7 os t2 t3 t7 t8) (v51c_1_t8 os t2 t3 t7 t8))]
noncomputable def l51c (st : St) : Option (List (Bool × Ex × St)) := qget [.rs 32, .i .i64, .i .i64, .i .i64, .i .i64] [] 0 135 (normW Try.prog [(0, none), (2, none), (3, none), (7, none), (8, none)] 0 st) fun ls => q51c (lLL ls 0) (lI ls 1) (lI ls 2) (lI ls 3) (lI ls 4)
noncomputable def L51 : LSpec := fun p st => match p with
  | [false, true, false, true, true, true] => l51a st
  | [false, true, false, false, true, false, false, true, false, true, true, true, true] => l51ba st
  | [false, true, false, true, true, true, true] => l51b st
  | [false, true, false, true, false, false, true, false, false, true, false, true, true, true, true, true, true] => l51ca st
  | [false, true, false, true, true, true, true, true, true] => l51c st
  | _ => none
theorem is51a_0 (os : List (List AV)) (t2 t3 t4 : Int) (h : i51a_0 os t2 t3 t4 = true) : r51a os t2 t3 t4 = some (.x0 (v51a_0_t2' os t2 t3 t4) (v51a_0_t4 os t2 t3 t4)) := by
  unfold i51a_0 at h
  unfold v51a_0_t2' v51a_0_t4
  generalize r51a os t2 t3 t4 = r at h ⊢
  rcases r with _ | y
  · cases h
  · cases y <;> first | rfl | cases h
theorem is51a_1 (os : List (List AV)) (t2 t3 t4 : Int) (h : i51a_1 os t2 t3 t4 = true) : r51a os t2 t3 t4 = some (.x1 (v51a_1_t4 os t2 t3 t4)) := by
  unfold i51a_1 at h
  unfold v51a_1_t4
  generalize r51a os t2 t3 t4 = r at h ⊢
  rcases r with _ | y
  · cases h
  · cases y <;> first | rfl | cases h
theorem round51a (os : List (List AV)) (t2 t3 t4 : Int) : round Try.prog SW1 (ro 51) L51 lp51a [false, true, false, true, true, true] [(0, none), (2, none), (3, none), (4, none)] 0 (s51a os t2 t3 t4) =
    cond (decide (t4 < t3)) (cond (inb t4 os.length) (cond (g30 (fI (os.getD t4.toNat []) 0) 0 400) (cond (!w30_0 (fI (os.getD t4.toNat []) 0) 0 400) (some (.ret, o51a_0 os t2 t3 1 t4)) (cond (inb t4 os.length) (cond (g30 (fI (os.getD t4.toNat []) 1) 0 400) (cond (!w30_0 (fI (os.getD t4.toNat []) 1) 0 400) (some (.ret, o51a_0 os t2 t3 1 t4)) (some (.nrm, s51a os t2 t3 (IntKind.i64.wrap (t4 + 1))))) (none)) (none))) (none)) (none)) (some (.ext 0, o51a_1 os t2 t3 t4)) := by kernel_rfl
theorem rnd51a (os : List (List AV)) (t2 t3 : Int) (x : S51a) : round Try.prog SW1 (ro 51) L51 lp51a [false, true, false, true, true, true] [(0, none), (2, none), (3, none), (4, none)] 0 ((fun x => s51a os t2 t3 x.t4) x) = toR (fun x => s51a os t2 t3 x.t4) (ou51a os t2 t3) (stp51a os t2 t3 x.t4) := by
  refine (round51a _ _ _ _ ).trans ?_
  unfold stp51a
  simp only [toR_cond]
  rfl
theorem lokb51a (os : List (List AV)) (t2 t3 t4 : Int) {e : Ex} {s : St} (hch : Chosen (q51a os t2 t3 t4) e s) : LB Try.prog SW1 (ro 51) L51 lp51a [false, true, false, true, true, true] [(0, none), (2, none), (3, none), (4, none)] 0 (s51a os t2 t3 t4) e s := by
  unfold q51a at hch
  have main := fun y h => LB_run (x := (⟨t4⟩ : S51a)) (y := y) (nb := 0) (fun y => by cases y <;> simp [ou51a]) (rnd51a os t2 t3) h
  obtain ⟨x, hx, hg, rfl, rfl⟩ := chosen_any hch
  simp only [List.mem_cons, List.not_mem_nil, or_false] at hx
  rcases hx with rfl | rfl
  · exact main _ (is51a_0 os t2 t3 t4 hg)
  · exact main _ (is51a_1 os t2 t3 t4 hg)
theorem lok51a {st : St} {outs : List (Bool × Ex × St)} {e : Ex} {s : St} (hl : l51a st = some outs) (hch : Chosen outs e s) :
    ∃ keep nb, 0 ≤ nb ∧ LB Try.prog SW1 (ro 51) L51 lp51a [false, true, false, true, true, true] keep nb st e s := by
  unfold l51a at hl
  obtain ⟨ls, hno, rfl⟩ := qget_some hl
  have hno := normW_norm hno
  refine ⟨_, _, ?_, .enterQ hno (s2 := s51a (lLL ls 0) (lI ls 1) (lI ls 2) (lI ls 3)) (by kernel_rfl) (lokb51a _ _ _ _ hch)⟩
  decide
theorem is51ba_0 (os : List (List AV)) (t2 t3 t5 t6 : Int) (h : i51ba_0 os t2 t3 t5 t6 = true) : r51ba os t2 t3 t5 t6 = some (.x0 (v51ba_0_t2' os t2 t3 t5 t6) (v51ba_0_t6 os t2 t3 t5 t6)) := by
  unfold i51ba_0 at h
  unfold v51ba_0_t2' v51ba_0_t6
  generalize r51ba os t2 t3 t5 t6 = r at h ⊢
  rcases r with _ | y
  · cases h
  · cases y <;> first | rfl | cases h
theorem is51ba_1 (os : List (List AV)) (t2 t3 t5 t6 : Int) (h : i51ba_1 os t2 t3 t5 t6 = true) : r51ba os t2 t3 t5 t6 = some (.x1 (v51ba_1_t6 os t2 t3 t5 t6)) := by
  unfold i51ba_1 at h
  unfold v51ba_1_t6
  generalize r51ba os t2 t3 t5 t6 = r at h ⊢
  rcases r with _ | y
  · cases h
  · cases y <;> first | rfl | cases h
theorem round51ba (os : List (List AV)) (t2 t3 t5 t6 : Int) : round Try.prog SW1 (ro 51) L51 lp51ba [false, true, false, false, true, false, false, true, false, true, true, true, true] [(0, none), (2, none), (3, none), (5, none), (6, none)] 0 (s51ba os t2 t3 t5 t6) =
    cond (decide (t6 < t5)) (cond (inb t5 os.length) (cond (inb t6 os.length) (cond (fI (os.getD t5.toNat []) 0 == fI (os.getD t6.toNat []) 0 && fI (os.getD t5.toNat []) 1 == fI (os.getD t6.toNat []) 1) (some (.ret, o51ba_0 os t2 t3 t5 6 t6)) (some (.nrm, s51ba os t2 t3 t5 (IntKind.i64.wrap (t6 + 1))))) (none)) (none)) (some (.ext 4, o51ba_1 os t2 t3 t5 t6)) := by kernel_rfl
theorem rnd51ba (os : List (List AV)) (t2 t3 t5 : Int) (x : S51ba) : round Try.prog SW1 (ro 51) L51 lp51ba [false, true, false, false, true, false, false, true, false, true, true, true, true] [(0, none), (2, none), (3, none), (5, none), (6, none)] 0 ((fun x => s51ba os t2 t3 t5 x.t6) x) = toR (fun x => s51ba os t2 t3 t5 x.t6) (ou51ba os t2 t3 t5) (stp51ba os t2 t3 t5 x.t6) := by
  refine (round51ba _ _ _ _ _ ).trans ?_
  unfold stp51ba
  simp only [toR_cond]
  rfl
theorem lokb51ba (os : List (List AV)) (t2 t3 t5 t6 : Int) {e : Ex} {s : St} (hch : Chosen (q51ba os t2 t3 t5 t6) e s) : LB Try.prog SW1 (ro 51) L51 lp51ba [false, true, false, false, true, false, false, true, false, true, true, true, true] [(0, none), (2, none), (3, none), (5, none), (6, none)] 0 (s51ba os t2 t3 t5 t6) e s := by
  unfold q51ba at hch
  have main := fun y h => LB_run (x := (⟨t6⟩ : S51ba)) (y := y) (nb := 0) (fun y => by cases y <;> simp [ou51ba]) (rnd51ba os t2 t3 t5) h
  obtain ⟨x, hx, hg, rfl, rfl⟩ := chosen_any hch
  simp only [List.mem_cons, List.not_mem_nil, or_false] at hx
  rcases hx with rfl | rfl
  · exact main _ (is51ba_0 os t2 t3 t5 t6 hg)
  · exact main _ (is51ba_1 os t2 t3 t5 t6 hg)
theorem lok51ba {st : St} {outs : List (Bool × Ex × St)} {e : Ex} {s : St} (hl : l51ba st = some outs) (hch : Chosen outs e s) :
    ∃ keep nb, 0 ≤ nb ∧ LB Try.prog SW1 (ro 51) L51 lp51ba [false, true, false, false, true, false, false, true, false, true, true, true, true] keep nb st e s := by
  unfold l51ba at hl
  obtain ⟨ls, hno, rfl⟩ := qget_some hl
  have hno := normW_norm hno
  refine ⟨_, _, ?_, .enterQ hno (s2 := s51ba (lLL ls 0) (lI ls 1) (lI ls 2) (lI ls 3) (lI ls 4)) (by kernel_rfl) (lokb51ba _ _ _ _ _ hch)⟩
  decide
theorem is51b_0 (os : List (List AV)) (t2 t3 t5 : Int) (h : i51b_0 os t2 t3 t5 = true) : r51b os t2 t3 t5 = some (.x0 (v51b_0_t2' os t2 t3 t5) (v51b_0_t5 os t2 t3 t5)) := by
  unfold i51b_0 at h
  unfold v51b_0_t2' v51b_0_t5
  generalize r51b os t2 t3 t5 = r at h ⊢
  rcases r with _ | y
  · cases h
  · cases y <;> first | rfl | cases h
theorem is51b_1 (os : List (List AV)) (t2 t3 t5 : Int) (h : i51b_1 os t2 t3 t5 = true) : r51b os t2 t3 t5 = some (.x1 (v51b_1_t5 os t2 t3 t5)) := by
  unfold i51b_1 at h
  unfold v51b_1_t5
  generalize r51b os t2 t3 t5 = r at h ⊢
  rcases r with _ | y
  · cases h
  · cases y <;> first | rfl | cases h
theorem round51b (os : List (List AV)) (t2 t3 t5 : Int) : round Try.prog SW1 (ro 51) L51 lp51b [false, true, false, true, true, true, true] [(0, none), (2, none), (3, none), (5, none)] 0 (s51b os t2 t3 t5) =
    cond (decide (t5 < t3)) (cond (i51ba_0 os t2 t3 t5 0) (some (.ret, o51b_0 os t2 t3 (v51ba_0_t2' os t2 t3 t5 0) t5)) (cond (i51ba_1 os t2 t3 t5 0) (some (.nrm, s51b os t2 t3 (IntKind.i64.wrap (t5 + 1)))) (none))) (some (.ext 2, o51b_1 os t2 t3 t5)) := by kernel_rfl
theorem rnd51b (os : List (List AV)) (t2 t3 : Int) (x : S51b) : round Try.prog SW1 (ro 51) L51 lp51b [false, true, false, true, true, true, true] [(0, none), (2, none), (3, none), (5, none)] 0 ((fun x => s51b os t2 t3 x.t5) x) = toR (fun x => s51b os t2 t3 x.t5) (ou51b os t2 t3) (stp51b os t2 t3 x.t5) := by
  refine (round51b _ _ _ _ ).trans ?_
  unfold stp51b
  simp only [toR_cond]
  rfl
theorem lokb51b (os : List (List AV)) (t2 t3 t5 : Int) {e : Ex} {s : St} (hch : Chosen (q51b os t2 t3 t5) e s) : LB Try.prog SW1 (ro 51) L51 lp51b [false, true, false, true, true, true, true] [(0, none), (2, none), (3, none), (5, none)] 0 (s51b os t2 t3 t5) e s := by
  unfold q51b at hch
  have main := fun y h => LB_run (x := (⟨t5⟩ : S51b)) (y := y) (nb := 0) (fun y => by cases y <;> simp [ou51b]) (rnd51b os t2 t3) h
  obtain ⟨x, hx, hg, rfl, rfl⟩ := chosen_any hch
  simp only [List.mem_cons, List.not_mem_nil, or_false] at hx
  rcases hx with rfl | rfl
  · exact main _ (is51b_0 os t2 t3 t5 hg)
  · exact main _ (is51b_1 os t2 t3 t5 hg)
theorem lok51b {st : St} {outs : List (Bool × Ex × St)} {e : Ex} {s : St} (hl : l51b st = some outs) (hch : Chosen outs e s) :
    ∃ keep nb, 0 ≤ nb ∧ LB Try.prog SW1 (ro 51) L51 lp51b [false, true, false, true, true, true, true] keep nb st e s := by
  unfold l51b at hl
  obtain ⟨ls, hno, rfl⟩ := qget_some hl
  have hno := normW_norm hno
  refine ⟨_, _, ?_, .enterQ hno (s2 := s51b (lLL ls 0) (lI ls 1) (lI ls 2) (lI ls 3)) (by kernel_rfl) (lokb51b _ _ _ _ hch)⟩
  decide
theorem is51ca_0 (os : List (List AV)) (t2 t3 t7 t8 m21_0 m21_1 m22_0 m22_1 m23_0 m23_1 t12 : Int) (h : i51ca_0 os t2 t3 t7 t8 m21_0 m21_1 m22_0 m22_1 m23_0 m23_1 t12 = true) : r51ca os t2 t3 t7 t8 m21_0 m21_1 m22_0 m22_1 m23_0 m23_1 t12 = some (.x0 (v51ca_0_t2' os t2 t3 t7 t8 m21_0 m21_1 m22_0 m22_1 m23_0 m23_1 t12) (v51ca_0_t12 os t2 t3 t7 t8 m21_0 m21_1 m22_0 m22_1 m23_0 m23_1 t12)) := by
  unfold i51ca_0 at h
  unfold v51ca_0_t2' v51ca_0_t12
  generalize r51ca os t2 t3 t7 t8 m21_0 m21_1 m22_0 m22_1 m23_0 m23_1 t12 = r at h ⊢
  rcases r with _ | y
  · cases h
  · cases y <;> first | rfl | cases h
theorem is51ca_1 (os : List (List AV)) (t2 t3 t7 t8 m21_0 m21_1 m22_0 m22_1 m23_0 m23_1 t12 : Int) (h : i51ca_1 os t2 t3 t7 t8 m21_0 m21_1 m22_0 m22_1 m23_0 m23_1 t12 = true) : r51ca os t2 t3 t7 t8 m21_0 m21_1 m22_0 m22_1 m23_0 m23_1 t12 = some (.x1 (v51ca_1_t12 os t2 t3 t7 t8 m21_0 m21_1 m22_0 m22_1 m23_0 m23_1 t12)) := by
  unfold i51ca_1 at h
  unfold v51ca_1_t12
  generalize r51ca os t2 t3 t7 t8 m21_0 m21_1 m22_0 m22_1 m23_0 m23_1 t12 = r at h ⊢
  rcases r with _ | y
  · cases h
  · cases y <;> first | rfl | cases h
theorem round51ca (os : List (List AV)) (t2 t3 t7 t8 t12 m21_0 m21_1 m22_0 m22_1 m23_0 m23_1 : Int) : round Try.prog SW1 (ro 51) L51 lp51ca [false, true, false, true, false, false, true, false, false, true, false, true, true, true, true, true, true] [(0, none), (2, none), (3, none), (7, none), (8, none), (9, none), (10, none), (11, none), (12, none)] 24 (s51ca os t2 t3 t7 t8 t12 m21_0 m21_1 m22_0 m22_1 m23_0 m23_1) =
    cond (decide (t12 < t3)) (cond (inb t12 os.length) (cond (decide (w63_0 m21_0 m21_1 m22_0 m22_1 (fI (os.getD t12.toNat []) 0) (fI (os.getD t12.toNat []) 1) < 0)) (some (.ret, o51ca_0 os t2 t3 t7 t8 m21_0 m21_1 m22_0 m22_1 m23_0 m23_1 9 t12)) (some (.nrm, s51ca os t2 t3 t7 t8 (IntKind.i64.wrap (t12 + 1)) m21_0 m21_1 m22_0 m22_1 m23_0 m23_1))) (none)) (some (.ext 8, o51ca_1 os t2 t3 t7 t8 m21_0 m21_1 m22_0 m22_1 m23_0 m23_1 t12)) := by kernel_rfl
theorem rnd51ca (os : List (List AV)) (t2 t3 t7 t8 m21_0 m21_1 m22_0 m22_1 m23_0 m23_1 : Int) (x : S51ca) : round Try.prog SW1 (ro 51) L51 lp51ca [false, true, false, true, false, false, true, false, false, true, false, true, true, true, true, true, true] [(0, none), (2, none), (3, none), (7, none), (8, none), (9, none), (10, none), (11, none), (12, none)] 24 ((fun x => s51ca os t2 t3 t7 t8 x.t12 m21_0 m21_1 m22_0 m22_1 m23_0 m23_1) x) = toR (fun x => s51ca os t2 t3 t7 t8 x.t12 m21_0 m21_1 m22_0 m22_1 m23_0 m23_1) (ou51ca os t2 t3 t7 t8 m21_0 m21_1 m22_0 m22_1 m23_0 m23_1) (stp51ca os t2 t3 t7 t8 m21_0 m21_1 m22_0 m22_1 m23_0 m23_1 x.t12) := by
  refine (round51ca _ _ _ _ _ _ _ _ _ _ _ _ ).trans ?_
  unfold stp51ca
  simp only [toR_cond]
  rfl
theorem lokb51ca (os : List (List AV)) (t2 t3 t7 t8 t12 m21_0 m21_1 m22_0 m22_1 m23_0 m23_1 : Int) {e : Ex} {s : St} (hch : Chosen (q51ca os t2 t3 t7 t8 t12 m21_0 m21_1 m22_0 m22_1 m23_0 m23_1) e s) : LB Try.prog SW1 (ro 51) L51 lp51ca [false, true, false, true, false, false, true, false, false, true, false, true, true, true, true, true, true] [(0, none), (2, none), (3, none), (7, none), (8, none), (9, none), (10, none), (11, none), (12, none)] 24 (s51ca os t2 t3 t7 t8 t12 m21_0 m21_1 m22_0 m22_1 m23_0 m23_1) e s := by
  unfold q51ca at hch
  have main := fun y h => LB_run (x := (⟨t12⟩ : S51ca)) (y := y) (nb := 24) (fun y => by cases y <;> simp [ou51ca]) (rnd51ca os t2 t3 t7 t8 m21_0 m21_1 m22_0 m22_1 m23_0 m23_1) h
  obtain ⟨x, hx, hg, rfl, rfl⟩ := chosen_any hch
  simp only [List.mem_cons, List.not_mem_nil, or_false] at hx
  rcases hx with rfl | rfl
  · exact main _ (is51ca_0 os t2 t3 t7 t8 m21_0 m21_1 m22_0 m22_1 m23_0 m23_1 t12 hg)
  · exact main _ (is51ca_1 os t2 t3 t7 t8 m21_0 m21_1 m22_0 m22_1 m23_0 m23_1 t12 hg)
theorem lok51ca {st : St} {outs : List (Bool × Ex × St)} {e : Ex} {s : St} (hl : l51ca st = some outs) (hch : Chosen outs e s) :
    ∃ keep nb, 0 ≤ nb ∧ LB Try.prog SW1 (ro 51) L51 lp51ca [false, true, false, true, false, false, true, false, false, true, false, true, true, true, true, true, true] keep nb st e s := by
  unfold l51ca at hl
  obtain ⟨ls, hno, rfl⟩ := qget_some hl
  have hno := normW_norm hno
  refine ⟨_, _, ?_, .enterQ hno (s2 := s51ca (lLL ls 0) (lI ls 1) (lI ls 2) (lI ls 3) (lI ls 4) (lI ls 5) (lI ls 6) (lI ls 7) (lI ls 8) (lI ls 9) (lI ls 10) (lI ls 11)) (by kernel_rfl) (lokb51ca _ _ _ _ _ _ _ _ _ _ _ _ hch)⟩
  decide
theorem is51c_0 (os : List (List AV)) (t2 t3 t7 t8 : Int) (h : i51c_0 os t2 t3 t7 t8 = true) : r51c os t2 t3 t7 t8 = some (.x0 (v51c_0_t2' os t2 t3 t7 t8) (v51c_0_t7 os t2 t3 t7 t8) (v51c_0_t8 os t2 t3 t7 t8)) := by
  unfold i51c_0 at h
  unfold v51c_0_t2' v51c_0_t7 v51c_0_t8
  generalize r51c os t2 t3 t7 t8 = r at h ⊢
  rcases r with _ | y
  · cases h
  · cases y <;> first | rfl | cases h
theorem is51c_1 (os : List (List AV)) (t2 t3 t7 t8 : Int) (h : i51c_1 os t2 t3 t7 t8 = true) : r51c os t2 t3 t7 t8 = some (.x1 (v51c_1_t7 os t2 t3 t7 t8) (v51c_1_t8 os t2 t3 t7 t8)) := by
  unfold i51c_1 at h
  unfold v51c_1_t7 v51c_1_t8
  generalize r51c os t2 t3 t7 t8 = r at h ⊢
  rcases r with _ | y
  · cases h
  · cases y <;> first | rfl | cases h
theorem round51c (os : List (List AV)) (t2 t3 t7 t8 : Int) : round Try.prog SW1 (ro 51) L51 lp51c [false, true, false, true, true, true, true, true, true] [(0, none), (2, none), (3, none), (7, none), (8, none)] 0 (s51c os t2 t3 t7 t8) =
    cond (decide (t8 < t3)) (cond (inb t8 os.length) (cond (decide (t3 = 0)) (none) (cond (inb ((IntKind.i64.wrap (t8 + 1)).tmod t3) os.length) (cond (decide (t3 = 0)) (none) (cond (inb ((IntKind.i64.wrap (t8 + 2)).tmod t3) os.length) (cond (i51ca_0 os t2 t3 t7 t8 (fI (os.getD t8.toNat []) 0) (fI (os.getD t8.toNat []) 1) (fI (os.getD ((IntKind.i64.wrap (t8 + 1)).tmod t3).toNat []) 0) (fI (os.getD ((IntKind.i64.wrap (t8 + 1)).tmod t3).toNat []) 1) (fI (os.getD ((IntKind.i64.wrap (t8 + 2)).tmod t3).toNat []) 0) (fI (os.getD ((IntKind.i64.wrap (t8 + 2)).tmod t3).toNat []) 1) 0) (some (.ret, o51c_0 os t2 t3 (v51ca_0_t2' os t2 t3 t7 t8 (fI (os.getD t8.toNat []) 0) (fI (os.getD t8.toNat []) 1) (fI (os.getD ((IntKind.i64.wrap (t8 + 1)).tmod t3).toNat []) 0) (fI (os.getD ((IntKind.i64.wrap (t8 + 1)).tmod t3).toNat []) 1) (fI (os.getD ((IntKind.i64.wrap (t8 + 2)).tmod t3).toNat []) 0) (fI (os.getD ((IntKind.i64.wrap (t8 + 2)).tmod t3).toNat []) 1) 0) t7 t8)) (cond (i51ca_1 os t2 t3 t7 t8 (fI (os.getD t8.toNat []) 0) (fI (os.getD t8.toNat []) 1) (fI (os.getD ((IntKind.i64.wrap (t8 + 1)).tmod t3).toNat []) 0) (fI (os.getD ((IntKind.i64.wrap (t8 + 1)).tmod t3).toNat []) 1) (fI (os.getD ((IntKind.i64.wrap (t8 + 2)).tmod t3).toNat []) 0) (fI (os.getD ((IntKind.i64.wrap (t8 + 2)).tmod t3).toNat []) 1) 0) (cond (w63_0 (fI (os.getD t8.toNat []) 0) (fI (os.getD t8.toNat []) 1) (fI (os.getD ((IntKind.i64.wrap (t8 + 1)).tmod t3).toNat []) 0) (fI (os.getD ((IntKind.i64.wrap (t8 + 1)).tmod t3).toNat []) 1) (fI (os.getD ((IntKind.i64.wrap (t8 + 2)).tmod t3).toNat []) 0) (fI (os.getD ((IntKind.i64.wrap (t8 + 2)).tmod t3).toNat []) 1) == 0) (cond (decide (IntKind.i64.wrap (IntKind.i64.wrap (IntKind.i64.wrap (fI (os.getD ((IntKind.i64.wrap (t8 + 1)).tmod t3).toNat []) 0 - fI (os.getD t8.toNat []) 0) * IntKind.i64.wrap (fI (os.getD ((IntKind.i64.wrap (t8 + 2)).tmod t3).toNat []) 0 - fI (os.getD ((IntKind.i64.wrap (t8 + 1)).tmod t3).toNat []) 0)) + IntKind.i64.wrap (IntKind.i64.wrap (fI (os.getD ((IntKind.i64.wrap (t8 + 1)).tmod t3).toNat []) 1 - fI (os.getD t8.toNat []) 1) * IntKind.i64.wrap (fI (os.getD ((IntKind.i64.wrap (t8 + 2)).tmod t3).toNat []) 1 - fI (os.getD ((IntKind.i64.wrap (t8 + 1)).tmod t3).toNat []) 1))) < 0)) (some (.ret, o51c_0 os t2 t3 9 t7 t8)) (cond (inb 0 os.length) (some (.nrm, s51c os t2 t3 (IntKind.i64.wrap (t7 + w63_0 (fI (os.getD 0 []) 0) (fI (os.getD 0 []) 1) (fI (os.getD t8.toNat []) 0) (fI (os.getD t8.toNat []) 1) (fI (os.getD ((IntKind.i64.wrap (t8 + 1)).tmod t3).toNat []) 0) (fI (os.getD ((IntKind.i64.wrap (t8 + 1)).tmod t3).toNat []) 1))) (IntKind.i64.wrap (t8 + 1)))) (none))) (cond (inb 0 os.length) (some (.nrm, s51c os t2 t3 (IntKind.i64.wrap (t7 + w63_0 (fI (os.getD 0 []) 0) (fI (os.getD 0 []) 1) (fI (os.getD t8.toNat []) 0) (fI (os.getD t8.toNat []) 1) (fI (os.getD ((IntKind.i64.wrap (t8 + 1)).tmod t3).toNat []) 0) (fI (os.getD ((IntKind.i64.wrap (t8 + 1)).tmod t3).toNat []) 1))) (IntKind.i64.wrap (t8 + 1)))) (none))) (none))) (none))) (none))) (none)) (some (.ext 6, o51c_1 os t2 t3 t7 t8)) := by kernel_rfl
theorem rnd51c (os : List (List AV)) (t2 t3 : Int) (x : S51c) : round Try.prog SW1 (ro 51) L51 lp51c [false, true, false, true, true, true, true, true, true] [(0, none), (2, none), (3, none), (7, none), (8, none)] 0 ((fun x => s51c os t2 t3 x.t7 x.t8) x) = toR (fun x => s51c os t2 t3 x.t7 x.t8) (ou51c os t2 t3) (stp51c os t2 t3 x.t7 x.t8) := by
  refine (round51c _ _ _ _ _ ).trans ?_
  unfold stp51c
  simp only [toR_cond]
  rfl
theorem lokb51c (os : List (List AV)) (t2 t3 t7 t8 : Int) {e : Ex} {s : St} (hch : Chosen (q51c os t2 t3 t7 t8) e s) : LB Try.prog SW1 (ro 51) L51 lp51c [false, true, false, true, true, true, true, true, true] [(0, none), (2, none), (3, none), (7, none), (8, none)] 0 (s51c os t2 t3 t7 t8) e s := by
  unfold q51c at hch
  have main := fun y h => LB_run (x := (⟨t7, t8⟩ : S51c)) (y := y) (nb := 0) (fun y => by cases y <;> simp [ou51c]) (rnd51c os t2 t3) h
  obtain ⟨x, hx, hg, rfl, rfl⟩ := chosen_any hch
  simp only [List.mem_cons, List.not_mem_nil, or_false] at hx
  rcases hx with rfl | rfl
  · exact main _ (is51c_0 os t2 t3 t7 t8 hg)
  · exact main _ (is51c_1 os t2 t3 t7 t8 hg)
theorem lok51c {st : St} {outs : List (Bool × Ex × St)} {e : Ex} {s : St} (hl : l51c st = some outs) (hch : Chosen outs e s) :
    ∃ keep nb, 0 ≤ nb ∧ LB Try.prog SW1 (ro 51) L51 lp51c [false, true, false, true, true, true, true, true, true] keep nb st e s := by
  unfold l51c at hl
  obtain ⟨ls, hno, rfl⟩ := qget_some hl
  have hno := normW_norm hno
  refine ⟨_, _, ?_, .enterQ hno (s2 := s51c (lLL ls 0) (lI ls 1) (lI ls 2) (lI ls 3) (lI ls 4)) (by kernel_rfl) (lokb51c _ _ _ _ _ hch)⟩
  decide
theorem L51_ok (q : Pl) (c : Code) (hq : locate c51 q.reverse = some (.loop c)) (st : St) (outs : List (Bool × Ex × St)) (e : Ex) (s : St) (hl : L51 q st = some outs) (hch : Chosen outs e s) :
    ∃ keep nb, 0 ≤ nb ∧ LB Try.prog SW1 (ro 51) L51 c q keep nb st e s := by
  unfold L51 at hl
  split at hl
  · have : locate c51 ([false, true, false, true, true, true] : Pl).reverse = some (.loop lp51a) := by kernel_rfl
    rw [this] at hq
    cases hq
    exact lok51a hl hch
  · have : locate c51 ([false, true, false, false, true, false, false, true, false, true, true, true, true] : Pl).reverse = some (.loop lp51ba) := by kernel_rfl
    rw [this] at hq
    cases hq
    exact lok51ba hl hch
  · have : locate c51 ([false, true, false, true, true, true, true] : Pl).reverse = some (.loop lp51b) := by kernel_rfl
    rw [this] at hq
    cases hq
    exact lok51b hl hch
  · have : locate c51 ([false, true, false, true, false, false, true, false, false, true, false, true, true, true, true, true, true] : Pl).reverse = some (.loop lp51ca) := by kernel_rfl
    rw [this] at hq
    cases hq
    exact lok51ca hl hch
  · have : locate c51 ([false, true, false, true, true, true, true, true, true] : Pl).reverse = some (.loop lp51c) := by kernel_rfl
    rw [this] at hq
    cases hq
    exact lok51c hl hch
  · cases hl
theorem lok51 : LOK Try.prog SW1 (ro 51) L51 0 false c51 [] :=
  lok_lo L51_ok c51 [] false (locate_nil _) (by kernel_rfl)
noncomputable def t51 (os : List (List AV)) : Tr ((Int)) :=
  .cn (g30 (↑os.length : Int) 3 12) (.cn (!w30_0 (↑os.length : Int) 3 12) (.lf (1)) (.cn (i51a_0 os 0 (↑os.length : Int) 0) (.lf (v51a_0_t2' os 0 (↑os.length : Int) 0)) (.cn (i51a_1 os 0 (↑os.length : Int) 0) (.cn (i51b_0 os 0 (↑os.length : Int) 0) (.lf (v51b_0_t2' os 0 (↑os.length : Int) 0)) (.cn (i51b_1 os 0 (↑os.length : Int) 0) (.cn (i51c_0 os 0 (↑os.length : Int) 0 0) (.lf (v51c_0_t2' os 0 (↑os.length : Int) 0 0)) (.cn (i51c_1 os 0 (↑os.length : Int) 0 0) (.cn (decide (v51c_1_t7 os 0 (↑os.length : Int) 0 0 ≤ 0)) (.lf (9)) (.lf (0))) (.nn))) (.nn))) (.nn)))) (.nn)
noncomputable def g51 (os : List (List AV)) : Bool := (t51 os).g
noncomputable def w51_0 (os : List (List AV)) : Int := (t51 os).val
theorem eq51 (os : List (List AV)) : evF Try.prog SW1 (ro 51) L51 Try.f51 [.rs 32 os] = (t51 os).opt (fun (x : (Int)) => (.i .i64 x : AV)) := by kernel_rfl
theorem con51 (os : List (List AV)) (h : g51 os = true) : Con Try.prog 51 [.rs 32 os] [] (.i .i64 (w51_0 os)) [] :=
  con_of SW1_ok mixed Try.func51 (c := c51) rfl (names 51 _ Try.func51) lok51 ((eq51 os).trans (Tr.sound _ _ h))
noncomputable def e51 (args : List AV) (rows : List Blk) : Option (Bool × AV × List Blk) := match args, rows with
  | [.rs 32 os], [] => some (g51 os, .i .i64 (w51_0 os), [])
  | _, _ => none
theorem e51_ok (args : List AV) (rows : List Blk) (pre : Bool) (v : AV) (rows' : List Blk) (h : e51 args rows = some (pre, v, rows')) (hp : pre = true) : Con Try.prog 51 args rows v rows' := by
  unfold e51 at h
  split at h
  · cases h; exact con51 _ hp
  · cases h
-- SPEC 51
end Go.Proofs.Ytoglnllbopcejaa

set_option maxRecDepth 100000
set_option maxHeartbeats 0
set_option linter.unusedVariables false
namespace Go.Proofs.Ytoglnllbopcejaa
open Go Go.Ev

noncomputable def c53 : Code := match Try.f53.body with | some c => c | _ => .skip
noncomputable def lp53a : Code := loopAt c53 [true, false, true, false]
noncomputable def s53a (os hs : List (List AV)) (st tl th : Int) (ms : List (List AV)) (t2 : Bool) (t3 : Int) : St :=
  { t := [(1, .rp [.sl 32, .sl 55, .int .i64, .int .i64, .int .i64, .sl 67] [.rs 32 os, .rs 55 hs, .i .i64 st, .i .i64 tl, .i .i64 th, .rs 67 ms] 0), (2, .b t2), (3, .i .i64 t3)], m := [], nx := 0, nt := 63 }
noncomputable def lp53aa : Code := loopAt c53 [true, false, true, false, false, true, false, false, true, true, true, false]
noncomputable def s53aa (os hs : List (List AV)) (st tl th : Int) (ms : List (List AV)) (t2 : Bool) (t3 t5 m10_0 m10_1 m10_2 m10_3 : Int) : St :=
  { t := [(1, .rp [.sl 32, .sl 55, .int .i64, .int .i64, .int .i64, .sl 67] [.rs 32 os, .rs 55 hs, .i .i64 st, .i .i64 tl, .i .i64 th, .rs 67 ms] 0), (2, .b t2), (3, .i .i64 t3), (4, .p 10 0 0), (5, .i .i64 t5)], m := [(0, .dead), (1, .dead), (2, .dead), (3, .dead), (4, .dead), (5, .dead), (6, .dead), (7, .dead), (8, .dead), (9, .dead), (10, .row 67 [[.i .i64 m10_0, .i .i64 m10_1, .i .i64 m10_2, .i .i64 m10_3]])], nx := 11, nt := 63 }
structure S53aa where
  t5 : Int
inductive T53aa where
  | x0 (t2' : Bool) (t5 : Int)
  | x1 (t5 : Int)
noncomputable def stp53aa (os hs : List (List AV)) (st tl th : Int) (ms : List (List AV)) (t2 : Bool) (t3 m10_0 m10_1 m10_2 m10_3 t5 : Int) : Lp S53aa T53aa :=
  cond (decide (t5 < (↑ms.length : Int))) (cond (inb t5 ms.length) (cond (decide (m10_2 > IntKind.i64.wrap (fI (ms.getD t5.toNat []) 3 + IntKind.i64.wrap (st * w64_0 m10_0 m10_1 (fI (ms.getD t5.toNat []) 0) (fI (ms.getD t5.toNat []) 1))))) (.out (.x0 false t5)) (.go ⟨IntKind.i64.wrap (t5 + 1)⟩)) (.bad)) (.out (.x1 t5))
noncomputable def o53aa_0 (os hs : List (List AV)) (st tl th : Int) (ms : List (List AV)) (t2 : Bool) (t3 m10_0 m10_1 m10_2 m10_3 : Int) (t2' : Bool) (t5 : Int) : St :=
  { t := [(1, .rp [.sl 32, .sl 55, .int .i64, .int .i64, .int .i64, .sl 67] [.rs 32 os, .rs 55 hs, .i .i64 st, .i .i64 tl, .i .i64 th, .rs 67 ms] 0), (2, .b t2'), (3, .i .i64 t3), (4, .p 10 0 0), (5, .i .i64 t5)], m := [(0, .dead), (1, .dead), (2, .dead), (3, .dead), (4, .dead), (5, .dead), (6, .dead), (7, .dead), (8, .dead), (9, .dead), (10, .row 67 [[.i .i64 m10_0, .i .i64 m10_1, .i .i64 m10_2, .i .i64 m10_3]])], nx := 11, nt := 63 }
noncomputable def o53aa_1 (os hs : List (List AV)) (st tl th : Int) (ms : List (List AV)) (t2 : Bool) (t3 m10_0 m10_1 m10_2 m10_3 t5 : Int) : St :=
  { t := [(1, .rp [.sl 32, .sl 55, .int .i64, .int .i64, .int .i64, .sl 67] [.rs 32 os, .rs 55 hs, .i .i64 st, .i .i64 tl, .i .i64 th, .rs 67 ms] 0), (2, .b t2), (3, .i .i64 t3), (4, .p 10 0 0), (5, .i .i64 t5)], m := [(0, .dead), (1, .dead), (2, .dead), (3, .dead), (4, .dead), (5, .dead), (6, .dead), (7, .dead), (8, .dead), (9, .dead), (10, .row 67 [[.i .i64 m10_0, .i .i64 m10_1, .i .i64 m10_2, .i .i64 m10_3]])], nx := 11, nt := 63 }
noncomputable def ou53aa (os hs : List (List AV)) (st tl th : Int) (ms : List (List AV)) (t2 : Bool) (t3 m10_0 m10_1 m10_2 m10_3 : Int) : T53aa → Ex × St
  | .x0 t2' t5 => (.ret, o53aa_0 os hs st tl th ms t2 t3 m10_0 m10_1 m10_2 m10_3 t2' t5)
  | .x1 t5 => (.ext 2, o53aa_1 os hs st tl th ms t2 t3 m10_0 m10_1 m10_2 m10_3 t5)
noncomputable def r53aa (os hs : List (List AV)) (st tl th : Int) (ms : List (List AV)) (t2 : Bool) (t3 m10_0 m10_1 m10_2 m10_3 t5 : Int) : Option T53aa := run (fun x => stp53aa os hs st tl th ms t2 t3 m10_0 m10_1 m10_2 m10_3 x.t5) (⟨t5⟩ : S53aa)
noncomputable def i53aa_0 (os hs : List (List AV)) (st tl th : Int) (ms : List (List AV)) (t2 : Bool) (t3 m10_0 m10_1 m10_2 m10_3 t5 : Int) : Bool := match r53aa os hs st tl th ms t2 t3 m10_0 m10_1 m10_2 m10_3 t5 with
  | some (.x0 _ _) => true
  | _ => false
noncomputable def v53aa_0_t2' (os hs : List (List AV)) (st tl th : Int) (ms : List (List AV)) (t2 : Bool) (t3 m10_0 m10_1 m10_2 m10_3 t5 : Int) : Bool := match r53aa os hs st tl th ms t2 t3 m10_0 m10_1 m10_2 m10_3 t5 with
  | some (.x0 t2' _) => t2'
  | _ => default
noncomputable def v53aa_0_t5 (os hs : List (List AV)) (st tl th : Int) (ms : List (List AV)) (t2 : Bool) (t3 m10_0 m10_1 m10_2 m10_3 t5 : Int) : Int := match r53aa os hs st tl th ms t2 t3 m10_0 m10_1 m10_2 m10_3 t5 with
  | some (.x0 _ t5) => t5
  | _ => default
noncomputable def i53aa_1 (os hs : List (List AV)) (st tl th : Int) (ms : List (List AV)) (t2 : Bool) (t3 m10_0 m10_1 m10_2 m10_3 t5 : Int) : Bool := match r53aa os hs st tl th ms t2 t3 m10_0 m10_1 m10_2 m10_3 t5 with
  | some (.x1 _) => true
  | _ => false
noncomputable def v53aa_1_t5 (os hs : List (List AV)) (st tl th : Int) (ms : List (List AV)) (t2 : Bool) (t3 m10_0 m10_1 m10_2 m10_3 t5 : Int) : Int := match r53aa os hs st tl th ms t2 t3 m10_0 m10_1 m10_2 m10_3 t5 with
  | some (.x1 t5) => t5
  | _ => default
noncomputable def q53aa (os hs : List (List AV)) (st tl th : Int) (ms : List (List AV)) (t2 : Bool) (t3 t5 m10_0 m10_1 m10_2 m10_3 : Int) : List (Bool × Ex × St) := [(i53aa_0 os hs st tl th ms t2 t3 m10_0 m10_1 m10_2 m10_3 t5, .ret, o53aa_0 os hs st tl th ms t2 t3 m10_0 m10_1 m10_2 m10_3 (v53aa_0_t2' os hs st tl th ms t2 t3 m10_0 m10_1 m10_2 m10_3 t5) (v53aa_0_t5 os hs st tl th ms t2 t3 m10_0 m10_1 m10_2 m10_3 t5)), (i53aa_1 os hs st tl th ms t2 t3 m10_0 m10_1 m10_2 m10_3 t5, .ext 2, o53aa_1 os hs st tl th ms t2 t3 m10_0 m10_1 m10_2 m10_3 (v53aa_1_t5 os hs st tl th ms t2 t3 m10_0 m10_1 m10_2 m10_3 t5))]
noncomputable def l53aa (st : St) : Option (List (Bool × Ex × St)) := qget [.rp [.sl 32, .sl 55, .int .i64, .int .i64, .int .i64, .sl 67] [.rs 32, .rs 55, .i .i64, .i .i64, .i .i64, .rs 67] 0, .b, .i .i64, .p 10 0 0, .i .i64] [(0, .dead), (1, .dead), (2, .dead), (3, .dead), (4, .dead), (5, .dead), (6, .dead), (7, .dead), (8, .dead), (9, .dead), (10, .row 67 [.l [.i .i64, .i .i64, .i .i64, .i .i64]])] 11 63 (normW Try.prog [(1, none), (2, none), (3, none), (4, none), (5, none)] 11 st) fun ls => q53aa (lLL ls 0) (lLL ls 1) (lI ls 2) (lI ls 3) (lI ls 4) (lLL ls 5) (lB ls 6) (lI ls 7) (lI ls 8) (lI ls 9) (lI ls 10) (lI ls 11) (lI ls 12)
structure S53a where
  t3 : Int
inductive T53a where
  | x0 (t2' : Bool) (t3 : Int)
  | x1 (t3 : Int)
noncomputable def stp53a (os hs : List (List AV)) (st tl th : Int) (ms : List (List AV)) (t2 : Bool) (t3 : Int) : Lp S53a T53a :=
  cond (decide (t3 < (↑ms.length : Int))) (cond (inb t3 ms.length) (cond (decide (fI (ms.getD t3.toNat []) 2 > th)) (.out (.x0 false t3)) (cond (decide (fI (ms.getD t3.toNat []) 3 < tl)) (.out (.x0 false t3)) (cond (i53aa_0 os hs st tl th ms t2 t3 (fI (ms.getD t3.toNat []) 0) (fI (ms.getD t3.toNat []) 1) (fI (ms.getD t3.toNat []) 2) (fI (ms.getD t3.toNat []) 3) 0) (.out (.x0 (v53aa_0_t2' os hs st tl th ms t2 t3 (fI (ms.getD t3.toNat []) 0) (fI (ms.getD t3.toNat []) 1) (fI (ms.getD t3.toNat []) 2) (fI (ms.getD t3.toNat []) 3) 0) t3)) (cond (i53aa_1 os hs st tl th ms t2 t3 (fI (ms.getD t3.toNat []) 0) (fI (ms.getD t3.toNat []) 1) (fI (ms.getD t3.toNat []) 2) (fI (ms.getD t3.toNat []) 3) 0) (.go ⟨IntKind.i64.wrap (t3 + 1)⟩) (.bad))))) (.bad)) (.out (.x1 t3))
noncomputable def o53a_0 (os hs : List (List AV)) (st tl th : Int) (ms : List (List AV)) (t2 t2' : Bool) (t3 : Int) : St :=
  { t := [(1, .rp [.sl 32, .sl 55, .int .i64, .int .i64, .int .i64, .sl 67] [.rs 32 os, .rs 55 hs, .i .i64 st, .i .i64 tl, .i .i64 th, .rs 67 ms] 0), (2, .b t2'), (3, .i .i64 t3)], m := [], nx := 0, nt := 63 }
noncomputable def o53a_1 (os hs : List (List AV)) (st tl th : Int) (ms : List (List AV)) (t2 : Bool) (t3 : Int) : St :=
  { t := [(1, .rp [.sl 32, .sl 55, .int .i64, .int .i64, .int .i64, .sl 67] [.rs 32 os, .rs 55 hs, .i .i64 st, .i .i64 tl, .i .i64 th, .rs 67 ms] 0), (2, .b t2), (3, .i .i64 t3)], m := [], nx := 0, nt := 63 }
noncomputable def ou53a (os hs : List (List AV)) (st tl th : Int) (ms : List (List AV)) (t2 : Bool) : T53a → Ex × St
  | .x0 t2' t3 => (.ret, o53a_0 os hs st tl th ms t2 t2' t3)
  | .x1 t3 => (.ext 0, o53a_1 os hs st tl th ms t2 t3)
noncomputable def r53a (os hs : List (List AV)) (st tl th : Int) (ms : List (List AV)) (t2 : Bool) (t3 : Int) : Option T53a := run (fun x => stp53a os hs st tl th ms t2 x.t3) (⟨t3⟩ : S53a)
noncomputable def i53a_0 (os hs : List (List AV)) (st tl th : Int) (ms : List (List AV)) (t2 : Bool) (t3 : Int) : Bool := match r53a os hs st tl th ms t2 t3 with
  | some (.x0 _ _) => true
  | _ => false
noncomputable def v53a_0_t2' (os hs : List (List AV)) (st tl th : Int) (ms : List (List AV)) (t2 : Bool) (t3 : Int) : Bool := match r53a os hs st tl th ms t2 t3 with
  | some (.x0 t2' _) => t2'
  | _ => default
noncomputable def v53a_0_t3 (os hs : List (List AV)) (st tl th : Int) (ms : List (List AV)) (t2 : Bool) (t3 : Int) : Int := match r53a os hs st tl th ms t2 t3 with
  | some (.x0 _ t3) => t3
  | _ => default
noncomputable def i53a_1 (os hs : List (List AV)) (st tl th : Int) (ms : List (List AV)) (t2 : Bool) (t3 : Int) : Bool := match r53a os hs st tl th ms t2 t3 with
  | some (.x1 _) => true
  | _ => false
noncomputable def v53a_1_t3 (os hs : List (List AV)) (st tl th : Int) (ms : List (List AV)) (t2 : Bool) (t3 : Int) : Int := match r53a os hs st tl th ms t2 t3 with
  | some (.x1 t3) => t3
  | _ => default
noncomputable def q53a (os hs : List (List AV)) (st tl th : Int) (ms : List (List AV)) (t2 : Bool) (t3 : Int) : List (Bool × Ex × St) := [(i53a_0 os hs st tl th ms t2 t3, .ret, o53a_0 os hs st tl th ms t2 (v53a_0_t2' os hs st tl th ms t2 t3) (v53a_0_t3 os hs st tl th ms t2 t3)), (i53a_1 os hs st tl th ms t2 t3, .ext 0, o53a_1 os hs st tl th ms t2 (v53a_1_t3 os hs st tl th ms t2 t3))]
noncomputable def l53a (st : St) : Option (List (Bool × Ex × St)) := qget [.rp [.sl 32, .sl 55, .int .i64, .int .i64, .int .i64, .sl 67] [.rs 32, .rs 55, .i .i64, .i .i64, .i .i64, .rs 67] 0, .b, .i .i64] [] 0 63 (normW Try.prog [(1, none), (2, none), (3, none)] 0 st) fun ls => q53a (lLL ls 0) (lLL ls 1) (lI ls 2) (lI ls 3) (lI ls 4) (lLL ls 5) (lB ls 6) (lI ls 7)
noncomputable def L53 : LSpec := fun p st => match p with
  | [false, true, true, true, false, false, true, false, false, true, false, true] => l53aa st
  | [false, true, false, true] => l53a st
  | _ => none
theorem is53aa_0 (os hs : List (List AV)) (st tl th : Int) (ms : List (List AV)) (t2 : Bool) (t3 m10_0 m10_1 m10_2 m10_3 t5 : Int) (h : i53aa_0 os hs st tl th ms t2 t3 m10_0 m10_1 m10_2 m10_3 t5 = true) : r53aa os hs st tl th ms t2 t3 m10_0 m10_1 m10_2 m10_3 t5 = some (.x0 (v53aa_0_t2' os hs st tl th ms t2 t3 m10_0 m10_1 m10_2 m10_3 t5) (v53aa_0_t5 os hs st tl th ms t2 t3 m10_0 m10_1 m10_2 m10_3 t5)) := by
  unfold i53aa_0 at h
  unfold v53aa_0_t2' v53aa_0_t5
  generalize r53aa os hs st tl th ms t2 t3 m10_0 m10_1 m10_2 m10_3 t5 = r at h ⊢
  rcases r with _ | y
  · cases h
  · cases y <;> first | rfl | cases h
theorem is53aa_1 (os hs : List (List AV)) (st tl th : Int) (ms : List (List AV)) (t2 : Bool) (t3 m10_0 m10_1 m10_2 m10_3 t5 : Int) (h : i53aa_1 os hs st tl th ms t2 t3 m10_0 m10_1 m10_2 m10_3 t5 = true) : r53aa os hs st tl th ms t2 t3 m10_0 m10_1 m10_2 m10_3 t5 = some (.x1 (v53aa_1_t5 os hs st tl th ms t2 t3 m10_0 m10_1 m10_2 m10_3 t5)) := by
  unfold i53aa_1 at h
  unfold v53aa_1_t5
  generalize r53aa os hs st tl th ms t2 t3 m10_0 m10_1 m10_2 m10_3 t5 = r at h ⊢
  rcases r with _ | y
  · cases h
  · cases y <;> first | rfl | cases h
theorem round53aa (os hs : List (List AV)) (st tl th : Int) (ms : List (List AV)) (t2 : Bool) (t3 t5 m10_0 m10_1 m10_2 m10_3 : Int) : round Try.prog SW1 (ro 53) L53 lp53aa [false, true, true, true, false, false, true, false, false, true, false, true] [(1, none), (2, none), (3, none), (4, none), (5, none)] 11 (s53aa os hs st tl th ms t2 t3 t5 m10_0 m10_1 m10_2 m10_3) =
    cond (decide (t5 < (↑ms.length : Int))) (cond (inb t5 ms.length) (cond (decide (m10_2 > IntKind.i64.wrap (fI (ms.getD t5.toNat []) 3 + IntKind.i64.wrap (st * w64_0 m10_0 m10_1 (fI (ms.getD t5.toNat []) 0) (fI (ms.getD t5.toNat []) 1))))) (some (.ret, o53aa_0 os hs st tl th ms t2 t3 m10_0 m10_1 m10_2 m10_3 false t5)) (some (.nrm, s53aa os hs st tl th ms t2 t3 (IntKind.i64.wrap (t5 + 1)) m10_0 m10_1 m10_2 m10_3))) (none)) (some (.ext 2, o53aa_1 os hs st tl th ms t2 t3 m10_0 m10_1 m10_2 m10_3 t5)) := by kernel_rfl
theorem rnd53aa (os hs : List (List AV)) (st tl th : Int) (ms : List (List AV)) (t2 : Bool) (t3 m10_0 m10_1 m10_2 m10_3 : Int) (x : S53aa) : round Try.prog SW1 (ro 53) L53 lp53aa [false, true, true, true, false, false, true, false, false, true, false, true] [(1, none), (2, none), (3, none), (4, none), (5, none)] 11 ((fun x => s53aa os hs st tl th ms t2 t3 x.t5 m10_0 m10_1 m10_2 m10_3) x) = toR (fun x => s53aa os hs st tl th ms t2 t3 x.t5 m10_0 m10_1 m10_2 m10_3) (ou53aa os hs st tl th ms t2 t3 m10_0 m10_1 m10_2 m10_3) (stp53aa os hs st tl th ms t2 t3 m10_0 m10_1 m10_2 m10_3 x.t5) := by
  refine (round53aa _ _ _ _ _ _ _ _ _ _ _ _ _ ).trans ?_
  unfold stp53aa
  simp only [toR_cond]
  rfl
theorem lokb53aa (os hs : List (List AV)) (st tl th : Int) (ms : List (List AV)) (t2 : Bool) (t3 t5 m10_0 m10_1 m10_2 m10_3 : Int) {e : Ex} {s : St} (hch : Chosen (q53aa os hs st tl th ms t2 t3 t5 m10_0 m10_1 m10_2 m10_3) e s) : LB Try.prog SW1 (ro 53) L53 lp53aa [false, true, true, true, false, false, true, false, false, true, false, true] [(1, none), (2, none), (3, none), (4, none), (5, none)] 11 (s53aa os hs st tl th ms t2 t3 t5 m10_0 m10_1 m10_2 m10_3) e s := by
  unfold q53aa at hch
  have main := fun y h => LB_run (x := (⟨t5⟩ : S53aa)) (y := y) (nb := 11) (fun y => by cases y <;> simp [ou53aa]) (rnd53aa os hs st tl th ms t2 t3 m10_0 m10_1 m10_2 m10_3) h
  obtain ⟨x, hx, hg, rfl, rfl⟩ := chosen_any hch
  simp only [List.mem_cons, List.not_mem_nil, or_false] at hx
  rcases hx with rfl | rfl
  · exact main _ (is53aa_0 os hs st tl th ms t2 t3 m10_0 m10_1 m10_2 m10_3 t5 hg)
  · exact main _ (is53aa_1 os hs st tl th ms t2 t3 m10_0 m10_1 m10_2 m10_3 t5 hg)
theorem lok53aa {st : St} {outs : List (Bool × Ex × St)} {e : Ex} {s : St} (hl : l53aa st = some outs) (hch : Chosen outs e s) :
    ∃ keep nb, 0 ≤ nb ∧ LB Try.prog SW1 (ro 53) L53 lp53aa [false, true, true, true, false, false, true, false, false, true, false, true] keep nb st e s := by
  unfold l53aa at hl
  obtain ⟨ls, hno, rfl⟩ := qget_some hl
  have hno := normW_norm hno
  refine ⟨_, _, ?_, .enterQ hno (s2 := s53aa (lLL ls 0) (lLL ls 1) (lI ls 2) (lI ls 3) (lI ls 4) (lLL ls 5) (lB ls 6) (lI ls 7) (lI ls 8) (lI ls 9) (lI ls 10) (lI ls 11) (lI ls 12)) (by kernel_rfl) (lokb53aa _ _ _ _ _ _ _ _ _ _ _ _ _ hch)⟩
  decide
theorem is53a_0 (os hs : List (List AV)) (st tl th : Int) (ms : List (List AV)) (t2 : Bool) (t3 : Int) (h : i53a_0 os hs st tl th ms t2 t3 = true) : r53a os hs st tl th ms t2 t3 = some (.x0 (v53a_0_t2' os hs st tl th ms t2 t3) (v53a_0_t3 os hs st tl th ms t2 t3)) := by
  unfold i53a_0 at h
  unfold v53a_0_t2' v53a_0_t3
  generalize r53a os hs st tl th ms t2 t3 = r at h ⊢
  rcases r with _ | y
  · cases h
  · cases y <;> first | rfl | cases h
theorem is53a_1 (os hs : List (List AV)) (st tl th : Int) (ms : List (List AV)) (t2 : Bool) (t3 : Int) (h : i53a_1 os hs st tl th ms t2 t3 = true) : r53a os hs st tl th ms t2 t3 = some (.x1 (v53a_1_t3 os hs st tl th ms t2 t3)) := by
  unfold i53a_1 at h
  unfold v53a_1_t3
  generalize r53a os hs st tl th ms t2 t3 = r at h ⊢
  rcases r with _ | y
  · cases h
  · cases y <;> first | rfl | cases h
theorem round53a (os hs : List (List AV)) (st tl th : Int) (ms : List (List AV)) (t2 : Bool) (t3 : Int) : round Try.prog SW1 (ro 53) L53 lp53a [false, true, false, true] [(1, none), (2, none), (3, none)] 0 (s53a os hs st tl th ms t2 t3) =
    cond (decide (t3 < (↑ms.length : Int))) (cond (inb t3 ms.length) (cond (decide (fI (ms.getD t3.toNat []) 2 > th)) (some (.ret, o53a_0 os hs st tl th ms t2 false t3)) (cond (decide (fI (ms.getD t3.toNat []) 3 < tl)) (some (.ret, o53a_0 os hs st tl th ms t2 false t3)) (cond (i53aa_0 os hs st tl th ms t2 t3 (fI (ms.getD t3.toNat []) 0) (fI (ms.getD t3.toNat []) 1) (fI (ms.getD t3.toNat []) 2) (fI (ms.getD t3.toNat []) 3) 0) (some (.ret, o53a_0 os hs st tl th ms t2 (v53aa_0_t2' os hs st tl th ms t2 t3 (fI (ms.getD t3.toNat []) 0) (fI (ms.getD t3.toNat []) 1) (fI (ms.getD t3.toNat []) 2) (fI (ms.getD t3.toNat []) 3) 0) t3)) (cond (i53aa_1 os hs st tl th ms t2 t3 (fI (ms.getD t3.toNat []) 0) (fI (ms.getD t3.toNat []) 1) (fI (ms.getD t3.toNat []) 2) (fI (ms.getD t3.toNat []) 3) 0) (some (.nrm, s53a os hs st tl th ms t2 (IntKind.i64.wrap (t3 + 1)))) (none))))) (none)) (some (.ext 0, o53a_1 os hs st tl th ms t2 t3)) := by kernel_rfl
theorem rnd53a (os hs : List (List AV)) (st tl th : Int) (ms : List (List AV)) (t2 : Bool) (x : S53a) : round Try.prog SW1 (ro 53) L53 lp53a [false, true, false, true] [(1, none), (2, none), (3, none)] 0 ((fun x => s53a os hs st tl th ms t2 x.t3) x) = toR (fun x => s53a os hs st tl th ms t2 x.t3) (ou53a os hs st tl th ms t2) (stp53a os hs st tl th ms t2 x.t3) := by
  refine (round53a _ _ _ _ _ _ _ _ ).trans ?_
  unfold stp53a
  simp only [toR_cond]
  rfl
theorem lokb53a (os hs : List (List AV)) (st tl th : Int) (ms : List (List AV)) (t2 : Bool) (t3 : Int) {e : Ex} {s : St} (hch : Chosen (q53a os hs st tl th ms t2 t3) e s) : LB Try.prog SW1 (ro 53) L53 lp53a [false, true, false, true] [(1, none), (2, none), (3, none)] 0 (s53a os hs st tl th ms t2 t3) e s := by
  unfold q53a at hch
  have main := fun y h => LB_run (x := (⟨t3⟩ : S53a)) (y := y) (nb := 0) (fun y => by cases y <;> simp [ou53a]) (rnd53a os hs st tl th ms t2) h
  obtain ⟨x, hx, hg, rfl, rfl⟩ := chosen_any hch
  simp only [List.mem_cons, List.not_mem_nil, or_false] at hx
  rcases hx with rfl | rfl
  · exact main _ (is53a_0 os hs st tl th ms t2 t3 hg)
  · exact main _ (is53a_1 os hs st tl th ms t2 t3 hg)
theorem lok53a {st : St} {outs : List (Bool × Ex × St)} {e : Ex} {s : St} (hl : l53a st = some outs) (hch : Chosen outs e s) :
    ∃ keep nb, 0 ≤ nb ∧ LB Try.prog SW1 (ro 53) L53 lp53a [false, true, false, true] keep nb st e s := by
  unfold l53a at hl
  obtain ⟨ls, hno, rfl⟩ := qget_some hl
  have hno := normW_norm hno
  refine ⟨_, _, ?_, .enterQ hno (s2 := s53a (lLL ls 0) (lLL ls 1) (lI ls 2) (lI ls 3) (lI ls 4) (lLL ls 5) (lB ls 6) (lI ls 7)) (by kernel_rfl) (lokb53a _ _ _ _ _ _ _ _ hch)⟩
  decide
theorem L53_ok (q : Pl) (c : Code) (hq : locate c53 q.reverse = some (.loop c)) (st : St) (outs : List (Bool × Ex × St)) (e : Ex) (s : St) (hl : L53 q st = some outs) (hch : Chosen outs e s) :
    ∃ keep nb, 0 ≤ nb ∧ LB Try.prog SW1 (ro 53) L53 c q keep nb st e s := by
  unfold L53 at hl
  split at hl
  · have : locate c53 ([false, true, true, true, false, false, true, false, false, true, false, true] : Pl).reverse = some (.loop lp53aa) := by kernel_rfl
    rw [this] at hq
    cases hq
    exact lok53aa hl hch
  · have : locate c53 ([false, true, false, true] : Pl).reverse = some (.loop lp53a) := by kernel_rfl
    rw [this] at hq
    cases hq
    exact lok53a hl hch
  · cases hl
theorem lok53 : LOK Try.prog SW1 (ro 53) L53 0 false c53 [] :=
  lok_lo L53_ok c53 [] false (locate_nil _) (by kernel_rfl)
noncomputable def t53 (os hs : List (List AV)) (st tl th : Int) (ms : List (List AV)) : Tr ((Bool)) :=
  .cn (i53a_0 os hs st tl th ms false 0) (.lf (v53a_0_t2' os hs st tl th ms false 0)) (.cn (i53a_1 os hs st tl th ms false 0) (.lf (true)) (.nn))
noncomputable def g53 (os hs : List (List AV)) (st tl th : Int) (ms : List (List AV)) : Bool := (t53 os hs st tl th ms).g
noncomputable def w53_0 (os hs : List (List AV)) (st tl th : Int) (ms : List (List AV)) : Bool := (t53 os hs st tl th ms).val
theorem eq53 (os hs : List (List AV)) (st tl th : Int) (ms : List (List AV)) : evF Try.prog SW1 (ro 53) L53 Try.f53 [.agg [.rs 32 os, .rs 55 hs, .i .i64 st, .i .i64 tl, .i .i64 th, .rs 67 ms]] = (t53 os hs st tl th ms).opt (fun (x : (Bool)) => (.b x : AV)) := by kernel_rfl
theorem con53 (os hs : List (List AV)) (st tl th : Int) (ms : List (List AV)) (h : g53 os hs st tl th ms = true) : Con Try.prog 53 [.agg [.rs 32 os, .rs 55 hs, .i .i64 st, .i .i64 tl, .i .i64 th, .rs 67 ms]] [] (.b (w53_0 os hs st tl th ms)) [] :=
  con_of SW1_ok mixed Try.func53 (c := c53) rfl (names 53 _ Try.func53) lok53 ((eq53 os hs st tl th ms).trans (Tr.sound _ _ h))
noncomputable def e53 (args : List AV) (rows : List Blk) : Option (Bool × AV × List Blk) := match args, rows with
  | [.agg [.rs 32 os, .rs 55 hs, .i .i64 st, .i .i64 tl, .i .i64 th, .rs 67 ms]], [] => some (g53 os hs st tl th ms, .b (w53_0 os hs st tl th ms), [])
  | _, _ => none
theorem e53_ok (args : List AV) (rows : List Blk) (pre : Bool) (v : AV) (rows' : List Blk) (h : e53 args rows = some (pre, v, rows')) (hp : pre = true) : Con Try.prog 53 args rows v rows' := by
  unfold e53 at h
  split at h
  · cases h; exact con53 _ _ _ _ _ _ hp
  · cases h
-- SPEC 53
end Go.Proofs.Ytoglnllbopcejaa

set_option maxRecDepth 100000
set_option maxHeartbeats 0
set_option linter.unusedVariables false
namespace Go.Proofs.Ytoglnllbopcejaa
open Go Go.Ev

noncomputable def c7 : Code := match Try.f7.body with | some c => c | _ => .skip
noncomputable def lp7a : Code := loopAt c7 [true, true, false, true, false]
noncomputable def s7a (os hs : List (List AV)) (st tl th : Int) (ms : List (List AV)) (t2 : Bool) (t3 : Int) : St :=
  { t := [(1, .rp [.sl 32, .sl 55, .int .i64, .int .i64, .int .i64, .sl 67] [.rs 32 os, .rs 55 hs, .i .i64 st, .i .i64 tl, .i .i64 th, .rs 67 ms] 0), (2, .b t2), (3, .i .i64 t3)], m := [], nx := 0, nt := 59 }
structure S7a where
  t3 : Int
inductive T7a where
  | x0 (t2' : Bool) (t3 : Int)
  | x1 (t3 : Int)
noncomputable def stp7a (os hs : List (List AV)) (st tl th : Int) (ms : List (List AV)) (t2 : Bool) (t3 : Int) : Lp S7a T7a :=
  cond (decide (t3 < (↑hs.length : Int))) (cond (inb t3 hs.length) (cond (g18 (fI (hs.getD t3.toNat []) 0)) (cond (w18_0 (fI (hs.getD t3.toNat []) 0)) (.out (.x0 true t3)) (cond (g18 (fI (hs.getD t3.toNat []) 1)) (cond (w18_0 (fI (hs.getD t3.toNat []) 1)) (.out (.x0 true t3)) (cond (g18 (fI (hs.getD t3.toNat []) 2)) (cond (w18_0 (fI (hs.getD t3.toNat []) 2)) (.out (.x0 true t3)) (cond (g18 (fI (hs.getD t3.toNat []) 3)) (cond (w18_0 (fI (hs.getD t3.toNat []) 3)) (.out (.x0 true t3)) (.go ⟨IntKind.i64.wrap (t3 + 1)⟩)) (.bad))) (.bad))) (.bad))) (.bad)) (.bad)) (.out (.x1 t3))
noncomputable def o7a_0 (os hs : List (List AV)) (st tl th : Int) (ms : List (List AV)) (t2 t2' : Bool) (t3 : Int) : St :=
  { t := [(1, .rp [.sl 32, .sl 55, .int .i64, .int .i64, .int .i64, .sl 67] [.rs 32 os, .rs 55 hs, .i .i64 st, .i .i64 tl, .i .i64 th, .rs 67 ms] 0), (2, .b t2'), (3, .i .i64 t3)], m := [], nx := 0, nt := 59 }
noncomputable def o7a_1 (os hs : List (List AV)) (st tl th : Int) (ms : List (List AV)) (t2 : Bool) (t3 : Int) : St :=
  { t := [(1, .rp [.sl 32, .sl 55, .int .i64, .int .i64, .int .i64, .sl 67] [.rs 32 os, .rs 55 hs, .i .i64 st, .i .i64 tl, .i .i64 th, .rs 67 ms] 0), (2, .b t2), (3, .i .i64 t3)], m := [], nx := 0, nt := 59 }
noncomputable def ou7a (os hs : List (List AV)) (st tl th : Int) (ms : List (List AV)) (t2 : Bool) : T7a → Ex × St
  | .x0 t2' t3 => (.ret, o7a_0 os hs st tl th ms t2 t2' t3)
  | .x1 t3 => (.ext 0, o7a_1 os hs st tl th ms t2 t3)
noncomputable def r7a (os hs : List (List AV)) (st tl th : Int) (ms : List (List AV)) (t2 : Bool) (t3 : Int) : Option T7a := run (fun x => stp7a os hs st tl th ms t2 x.t3) (⟨t3⟩ : S7a)
noncomputable def i7a_0 (os hs : List (List AV)) (st tl th : Int) (ms : List (List AV)) (t2 : Bool) (t3 : Int) : Bool := match r7a os hs st tl th ms t2 t3 with
  | some (.x0 _ _) => true
  | _ => false
noncomputable def v7a_0_t2' (os hs : List (List AV)) (st tl th : Int) (ms : List (List AV)) (t2 : Bool) (t3 : Int) : Bool := match r7a os hs st tl th ms t2 t3 with
  | some (.x0 t2' _) => t2'
  | _ => default
noncomputable def v7a_0_t3 (os hs : List (List AV)) (st tl th : Int) (ms : List (List AV)) (t2 : Bool) (t3 : Int) : Int := match r7a os hs st tl th ms t2 t3 with
  | some (.x0 _ t3) => t3
  | _ => default
noncomputable def i7a_1 (os hs : List (List AV)) (st tl th : Int) (ms : List (List AV)) (t2 : Bool) (t3 : Int) : Bool := match r7a os hs st tl th ms t2 t3 with
  | some (.x1 _) => true
  | _ => false
noncomputable def v7a_1_t3 (os hs : List (List AV)) (st tl th : Int) (ms : List (List AV)) (t2 : Bool) (t3 : Int) : Int := match r7a os hs st tl th ms t2 t3 with
  | some (.x1 t3) => t3
  | _ => default
noncomputable def q7a (os hs : List (List AV)) (st tl th : Int) (ms : List (List AV)) (t2 : Bool) (t3 : Int) : List (Bool × Ex × St) := [(i7a_0 os hs st tl th ms t2 t3, .ret, o7a_0 os hs st tl th ms t2 (v7a_0_t2' os hs st tl th ms t2 t3) (v7a_0_t3 os hs st tl th ms t2 t3)), (i7a_1 os hs st tl th ms t2 t3, .ext 0, o7a_1 os hs st tl th ms t2 (v7a_1_t3 os hs st tl th ms t2 t3))]
noncomputable def l7a (st : St) : Option (List (Bool × Ex × St)) := qget [.rp [.sl 32, .sl 55, .int .i64, .int .i64, .int .i64, .sl 67] [.rs 32, .rs 55, .i .i64, .i .i64, .i .i64, .rs 67] 0, .b, .i .i64] [] 0 59 (normW Try.prog [(1, none), (2, none), (3, none)] 0 st) fun ls => q7a (lLL ls 0) (lLL ls 1) (lI ls 2) (lI ls 3) (lI ls 4) (lLL ls 5) (lB ls 6) (lI ls 7)
noncomputable def L7 : LSpec := fun p st => match p with
  | [false, true, false, true, true] => l7a st
  | _ => none
theorem is7a_0 (os hs : List (List AV)) (st tl th : Int) (ms : List (List AV)) (t2 : Bool) (t3 : Int) (h : i7a_0 os hs st tl th ms t2 t3 = true) : r7a os hs st tl th ms t2 t3 = some (.x0 (v7a_0_t2' os hs st tl th ms t2 t3) (v7a_0_t3 os hs st tl th ms t2 t3)) := by
  unfold i7a_0 at h
  unfold v7a_0_t2' v7a_0_t3
  generalize r7a os hs st tl th ms t2 t3 = r at h ⊢
  rcases r with _ | y
  · cases h
  · cases y <;> first | rfl | cases h
theorem is7a_1 (os hs : List (List AV)) (st tl th : Int) (ms : List (List AV)) (t2 : Bool) (t3 : Int) (h : i7a_1 os hs st tl th ms t2 t3 = true) : r7a os hs st tl th ms t2 t3 = some (.x1 (v7a_1_t3 os hs st tl th ms t2 t3)) := by
  unfold i7a_1 at h
  unfold v7a_1_t3
  generalize r7a os hs st tl th ms t2 t3 = r at h ⊢
  rcases r with _ | y
  · cases h
  · cases y <;> first | rfl | cases h
theorem round7a (os hs : List (List AV)) (st tl th : Int) (ms : List (List AV)) (t2 : Bool) (t3 : Int) : round Try.prog SW1 (ro 7) L7 lp7a [false, true, false, true, true] [(1, none), (2, none), (3, none)] 0 (s7a os hs st tl th ms t2 t3) =
    cond (decide (t3 < (↑hs.length : Int))) (cond (inb t3 hs.length) (cond (g18 (fI (hs.getD t3.toNat []) 0)) (cond (w18_0 (fI (hs.getD t3.toNat []) 0)) (some (.ret, o7a_0 os hs st tl th ms t2 true t3)) (cond (g18 (fI (hs.getD t3.toNat []) 1)) (cond (w18_0 (fI (hs.getD t3.toNat []) 1)) (some (.ret, o7a_0 os hs st tl th ms t2 true t3)) (cond (g18 (fI (hs.getD t3.toNat []) 2)) (cond (w18_0 (fI (hs.getD t3.toNat []) 2)) (some (.ret, o7a_0 os hs st tl th ms t2 true t3)) (cond (g18 (fI (hs.getD t3.toNat []) 3)) (cond (w18_0 (fI (hs.getD t3.toNat []) 3)) (some (.ret, o7a_0 os hs st tl th ms t2 true t3)) (some (.nrm, s7a os hs st tl th ms t2 (IntKind.i64.wrap (t3 + 1))))) (none))) (none))) (none))) (none)) (none)) (some (.ext 0, o7a_1 os hs st tl th ms t2 t3)) := by kernel_rfl
theorem rnd7a (os hs : List (List AV)) (st tl th : Int) (ms : List (List AV)) (t2 : Bool) (x : S7a) : round Try.prog SW1 (ro 7) L7 lp7a [false, true, false, true, true] [(1, none), (2, none), (3, none)] 0 ((fun x => s7a os hs st tl th ms t2 x.t3) x) = toR (fun x => s7a os hs st tl th ms t2 x.t3) (ou7a os hs st tl th ms t2) (stp7a os hs st tl th ms t2 x.t3) := by
  refine (round7a _ _ _ _ _ _ _ _ ).trans ?_
  unfold stp7a
  simp only [toR_cond]
  rfl
theorem lokb7a (os hs : List (List AV)) (st tl th : Int) (ms : List (List AV)) (t2 : Bool) (t3 : Int) {e : Ex} {s : St} (hch : Chosen (q7a os hs st tl th ms t2 t3) e s) : LB Try.prog SW1 (ro 7) L7 lp7a [false, true, false, true, true] [(1, none), (2, none), (3, none)] 0 (s7a os hs st tl th ms t2 t3) e s := by
  unfold q7a at hch
  have main := fun y h => LB_run (x := (⟨t3⟩ : S7a)) (y := y) (nb := 0) (fun y => by cases y <;> simp [ou7a]) (rnd7a os hs st tl th ms t2) h
  obtain ⟨x, hx, hg, rfl, rfl⟩ := chosen_any hch
  simp only [List.mem_cons, List.not_mem_nil, or_false] at hx
  rcases hx with rfl | rfl
  · exact main _ (is7a_0 os hs st tl th ms t2 t3 hg)
  · exact main _ (is7a_1 os hs st tl th ms t2 t3 hg)
theorem lok7a {st : St} {outs : List (Bool × Ex × St)} {e : Ex} {s : St} (hl : l7a st = some outs) (hch : Chosen outs e s) :
    ∃ keep nb, 0 ≤ nb ∧ LB Try.prog SW1 (ro 7) L7 lp7a [false, true, false, true, true] keep nb st e s := by
  unfold l7a at hl
  obtain ⟨ls, hno, rfl⟩ := qget_some hl
  have hno := normW_norm hno
  refine ⟨_, _, ?_, .enterQ hno (s2 := s7a (lLL ls 0) (lLL ls 1) (lI ls 2) (lI ls 3) (lI ls 4) (lLL ls 5) (lB ls 6) (lI ls 7)) (by kernel_rfl) (lokb7a _ _ _ _ _ _ _ _ hch)⟩
  decide
theorem L7_ok (q : Pl) (c : Code) (hq : locate c7 q.reverse = some (.loop c)) (st : St) (outs : List (Bool × Ex × St)) (e : Ex) (s : St) (hl : L7 q st = some outs) (hch : Chosen outs e s) :
    ∃ keep nb, 0 ≤ nb ∧ LB Try.prog SW1 (ro 7) L7 c q keep nb st e s := by
  unfold L7 at hl
  split at hl
  · have : locate c7 ([false, true, false, true, true] : Pl).reverse = some (.loop lp7a) := by kernel_rfl
    rw [this] at hq
    cases hq
    exact lok7a hl hch
  · cases hl
theorem lok7 : LOK Try.prog SW1 (ro 7) L7 0 false c7 [] :=
  lok_lo L7_ok c7 [] false (locate_nil _) (by kernel_rfl)
noncomputable def t7 (os hs : List (List AV)) (st tl th : Int) (ms : List (List AV)) : Tr ((Bool)) :=
  .cn (decide ((↑os.length : Int) > 30)) (.lf (true)) (.cn (decide ((↑hs.length : Int) > 30)) (.lf (true)) (.cn (decide ((↑ms.length : Int) > 60)) (.lf (true)) (.cn (i7a_0 os hs st tl th ms false 0) (.lf (v7a_0_t2' os hs st tl th ms false 0)) (.cn (i7a_1 os hs st tl th ms false 0) (.lf (false)) (.nn)))))
noncomputable def g7 (os hs : List (List AV)) (st tl th : Int) (ms : List (List AV)) : Bool := (t7 os hs st tl th ms).g
noncomputable def w7_0 (os hs : List (List AV)) (st tl th : Int) (ms : List (List AV)) : Bool := (t7 os hs st tl th ms).val
theorem eq7 (os hs : List (List AV)) (st tl th : Int) (ms : List (List AV)) : evF Try.prog SW1 (ro 7) L7 Try.f7 [.agg [.rs 32 os, .rs 55 hs, .i .i64 st, .i .i64 tl, .i .i64 th, .rs 67 ms]] = (t7 os hs st tl th ms).opt (fun (x : (Bool)) => (.b x : AV)) := by kernel_rfl
theorem con7 (os hs : List (List AV)) (st tl th : Int) (ms : List (List AV)) (h : g7 os hs st tl th ms = true) : Con Try.prog 7 [.agg [.rs 32 os, .rs 55 hs, .i .i64 st, .i .i64 tl, .i .i64 th, .rs 67 ms]] [] (.b (w7_0 os hs st tl th ms)) [] :=
  con_of SW1_ok mixed Try.func7 (c := c7) rfl (names 7 _ Try.func7) lok7 ((eq7 os hs st tl th ms).trans (Tr.sound _ _ h))
noncomputable def e7 (args : List AV) (rows : List Blk) : Option (Bool × AV × List Blk) := match args, rows with
  | [.agg [.rs 32 os, .rs 55 hs, .i .i64 st, .i .i64 tl, .i .i64 th, .rs 67 ms]], [] => some (g7 os hs st tl th ms, .b (w7_0 os hs st tl th ms), [])
  | _, _ => none
theorem e7_ok (args : List AV) (rows : List Blk) (pre : Bool) (v : AV) (rows' : List Blk) (h : e7 args rows = some (pre, v, rows')) (hp : pre = true) : Con Try.prog 7 args rows v rows' := by
  unfold e7 at h
  split at h
  · cases h; exact con7 _ _ _ _ _ _ hp
  · cases h
-- SPEC 7
end Go.Proofs.Ytoglnllbopcejaa

set_option maxRecDepth 100000
set_option maxHeartbeats 0
set_option linter.unusedVariables false
namespace Go.Proofs.Ytoglnllbopcejaa
open Go Go.Ev

noncomputable def c11 : Code := match Try.f11.body with | some c => c | _ => .skip
noncomputable def lp11a : Code := loopAt c11 [true, true, false, true, false]
noncomputable def s11a (os hs : List (List AV)) (st tl th : Int) (ms t3_0 t3_1 : List (List AV)) (t3_2 t3_3 t3_4 : Int) (t3_5 : List (List AV)) (t4 : Bool) (t5 : Int) : St :=
  { t := [(2, .rp [.sl 32, .sl 55, .int .i64, .int .i64, .int .i64, .sl 67] [.rs 32 os, .rs 55 hs, .i .i64 st, .i .i64 tl, .i .i64 th, .rs 67 ms] 0), (3, .rp [.sl 32, .sl 55, .int .i64, .int .i64, .int .i64, .sl 67] [.rs 32 t3_0, .rs 55 t3_1, .i .i64 t3_2, .i .i64 t3_3, .i .i64 t3_4, .rs 67 t3_5] 0), (4, .b t4), (5, .i .i64 t5)], m := [], nx := 0, nt := 111 }
structure S11a where
  t5 : Int
inductive T11a where
  | x0 (t4' : Bool) (t5 : Int)
  | x1 (t5 : Int)
noncomputable def stp11a (os hs : List (List AV)) (st tl th : Int) (ms t3_0 t3_1 : List (List AV)) (t3_2 t3_3 t3_4 : Int) (t3_5 : List (List AV)) (t4 : Bool) (t5 : Int) : Lp S11a T11a :=
  cond (decide (t5 < (↑ms.length : Int))) (cond (inb t5 ms.length) (cond (inb t5 t3_5.length) (cond (!(fI (ms.getD t5.toNat []) 0 == fI (t3_5.getD t5.toNat []) 0 && fI (ms.getD t5.toNat []) 1 == fI (t3_5.getD t5.toNat []) 1 && (fI (ms.getD t5.toNat []) 2 == fI (t3_5.getD t5.toNat []) 2 && fI (ms.getD t5.toNat []) 3 == fI (t3_5.getD t5.toNat []) 3))) (.out (.x0 false t5)) (.go ⟨IntKind.i64.wrap (t5 + 1)⟩)) (.bad)) (.bad)) (.out (.x1 t5))
noncomputable def o11a_0 (os hs : List (List AV)) (st tl th : Int) (ms t3_0 t3_1 : List (List AV)) (t3_2 t3_3 t3_4 : Int) (t3_5 : List (List AV)) (t4 t4' : Bool) (t5 : Int) : St :=
  { t := [(2, .rp [.sl 32, .sl 55, .int .i64, .int .i64, .int .i64, .sl 67] [.rs 32 os, .rs 55 hs, .i .i64 st, .i .i64 tl, .i .i64 th, .rs 67 ms] 0), (3, .rp [.sl 32, .sl 55, .int .i64, .int .i64, .int .i64, .sl 67] [.rs 32 t3_0, .rs 55 t3_1, .i .i64 t3_2, .i .i64 t3_3, .i .i64 t3_4, .rs 67 t3_5] 0), (4, .b t4'), (5, .i .i64 t5)], m := [], nx := 0, nt := 111 }
noncomputable def o11a_1 (os hs : List (List AV)) (st tl th : Int) (ms t3_0 t3_1 : List (List AV)) (t3_2 t3_3 t3_4 : Int) (t3_5 : List (List AV)) (t4 : Bool) (t5 : Int) : St :=
  { t := [(2, .rp [.sl 32, .sl 55, .int .i64, .int .i64, .int .i64, .sl 67] [.rs 32 os, .rs 55 hs, .i .i64 st, .i .i64 tl, .i .i64 th, .rs 67 ms] 0), (3, .rp [.sl 32, .sl 55, .int .i64, .int .i64, .int .i64, .sl 67] [.rs 32 t3_0, .rs 55 t3_1, .i .i64 t3_2, .i .i64 t3_3, .i .i64 t3_4, .rs 67 t3_5] 0), (4, .b t4), (5, .i .i64 t5)], m := [], nx := 0, nt := 111 }
noncomputable def ou11a (os hs : List (List AV)) (st tl th : Int) (ms t3_0 t3_1 : List (List AV)) (t3_2 t3_3 t3_4 : Int) (t3_5 : List (List AV)) (t4 : Bool) : T11a → Ex × St
  | .x0 t4' t5 => (.ret, o11a_0 os hs st tl th ms t3_0 t3_1 t3_2 t3_3 t3_4 t3_5 t4 t4' t5)
  | .x1 t5 => (.ext 0, o11a_1 os hs st tl th ms t3_0 t3_1 t3_2 t3_3 t3_4 t3_5 t4 t5)
noncomputable def r11a (os hs : List (List AV)) (st tl th : Int) (ms t3_0 t3_1 : List (List AV)) (t3_2 t3_3 t3_4 : Int) (t3_5 : List (List AV)) (t4 : Bool) (t5 : Int) : Option T11a := run (fun x => stp11a os hs st tl th ms t3_0 t3_1 t3_2 t3_3 t3_4 t3_5 t4 x.t5) (⟨t5⟩ : S11a)
noncomputable def i11a_0 (os hs : List (List AV)) (st tl th : Int) (ms t3_0 t3_1 : List (List AV)) (t3_2 t3_3 t3_4 : Int) (t3_5 : List (List AV)) (t4 : Bool) (t5 : Int) : Bool := match r11a os hs st tl th ms t3_0 t3_1 t3_2 t3_3 t3_4 t3_5 t4 t5 with
  | some (.x0 _ _) => true
  | _ => false
noncomputable def v11a_0_t4' (os hs : List (List AV)) (st tl th : Int) (ms t3_0 t3_1 : List (List AV)) (t3_2 t3_3 t3_4 : Int) (t3_5 : List (List AV)) (t4 : Bool) (t5 : Int) : Bool := match r11a os hs st tl th ms t3_0 t3_1 t3_2 t3_3 t3_4 t3_5 t4 t5 with
  | some (.x0 t4' _) => t4'
  | _ => default
noncomputable def v11a_0_t5 (os hs : List (List AV)) (st tl th : Int) (ms t3_0 t3_1 : List (List AV)) (t3_2 t3_3 t3_4 : Int) (t3_5 : List (List AV)) (t4 : Bool) (t5 : Int) : Int := match r11a os hs st tl th ms t3_0 t3_1 t3_2 t3_3 t3_4 t3_5 t4 t5 with
  | some (.x0 _ t5) => t5
  | _ => default
noncomputable def i11a_1 (os hs : List (List AV)) (st tl th : Int) (ms t3_0 t3_1 : List (List AV)) (t3_2 t3_3 t3_4 : Int) (t3_5 : List (List AV)) (t4 : Bool) (t5 : Int) : Bool := match r11a os hs st tl th ms t3_0 t3_1 t3_2 t3_3 t3_4 t3_5 t4 t5 with
  | some (.x1 _) => true
  | _ => false
noncomputable def v11a_1_t5 (os hs : List (List AV)) (st tl th : Int) (ms t3_0 t3_1 : List (List AV)) (t3_2 t3_3 t3_4 : Int) (t3_5 : List (List AV)) (t4 : Bool) (t5 : Int) : Int := match r11a os hs st tl th ms t3_0 t3_1 t3_2 t3_3 t3_4 t3_5 t4 t5 with
  | some (.x1 t5) => t5
  | _ => default
noncomputable def q11a (os hs : List (List AV)) (st tl th : Int) (ms t3_0 t3_1 : List (List AV)) (t3_2 t3_3 t3_4 : Int) (t3_5 : List (List AV)) (t4 : Bool) (t5 : Int) : List (Bool × Ex × St) := [(i11a_0 os hs st tl th ms t3_0 t3_1 t3_2 t3_3 t3_4 t3_5 t4 t5, .ret, o11a_0 os hs st tl th ms t3_0 t3_1 t3_2 t3_3 t3_4 t3_5 t4 (v11a_0_t4' os hs st tl th ms t3_0 t3_1 t3_2 t3_3 t3_4 t3_5 t4 t5) (v11a_0_t5 os hs st tl th ms t3_0 t3_1 t3_2 t3_3 t3_4 t3_5 t4 t5)), (i11a_1 os hs st tl th ms t3_0 t3_1 t3_2 t3_3 t3_4 t3_5 t4 t5, .ext 0, o11a_1 os hs st tl th ms t3_0 t3_1 t3_2 t3_3 t3_4 t3_5 t4 (v11a_1_t5 os hs st tl th ms t3_0 t3_1 t3_2 t3_3 t3_4 t3_5 t4 t5))]
noncomputable def l11a (st : St) : Option (List (Bool × Ex × St)) := qget [.rp [.sl 32, .sl 55, .int .i64, .int .i64, .int .i64, .sl 67] [.rs 32, .rs 55, .i .i64, .i .i64, .i .i64, .rs 67] 0, .rp [.sl 32, .sl 55, .int .i64, .int .i64, .int .i64, .sl 67] [.rs 32, .rs 55, .i .i64, .i .i64, .i .i64, .rs 67] 0, .b, .i .i64] [] 0 111 (normW Try.prog [(2, none), (3, none), (4, none), (5, none)] 0 st) fun ls => q11a (lLL ls 0) (lLL ls 1) (lI ls 2) (lI ls 3) (lI ls 4) (lLL ls 5) (lLL ls 6) (lLL ls 7) (lI ls 8) (lI ls 9) (lI ls 10) (lLL ls 11) (lB ls 12) (lI ls 13)
noncomputable def lp11b : Code := loopAt c11 [true, true, true, false, true, false]
noncomputable def s11b (os hs : List (List AV)) (st tl th : Int) (ms t3_0 t3_1 : List (List AV)) (t3_2 t3_3 t3_4 : Int) (t3_5 : List (List AV)) (t4 : Bool) (t6 : Int) : St :=
  { t := [(2, .rp [.sl 32, .sl 55, .int .i64, .int .i64, .int .i64, .sl 67] [.rs 32 os, .rs 55 hs, .i .i64 st, .i .i64 tl, .i .i64 th, .rs 67 ms] 0), (3, .rp [.sl 32, .sl 55, .int .i64, .int .i64, .int .i64, .sl 67] [.rs 32 t3_0, .rs 55 t3_1, .i .i64 t3_2, .i .i64 t3_3, .i .i64 t3_4, .rs 67 t3_5] 0), (4, .b t4), (6, .i .i64 t6)], m := [], nx := 0, nt := 111 }
structure S11b where
  t6 : Int
inductive T11b where
  | x0 (t4' : Bool) (t6 : Int)
  | x1 (t6 : Int)
noncomputable def stp11b (os hs : List (List AV)) (st tl th : Int) (ms t3_0 t3_1 : List (List AV)) (t3_2 t3_3 t3_4 : Int) (t3_5 : List (List AV)) (t4 : Bool) (t6 : Int) : Lp S11b T11b :=
  cond (decide (t6 < (↑os.length : Int))) (cond (inb t6 os.length) (cond (inb t6 t3_0.length) (cond (!(fI (os.getD t6.toNat []) 0 == fI (t3_0.getD t6.toNat []) 0 && fI (os.getD t6.toNat []) 1 == fI (t3_0.getD t6.toNat []) 1)) (.out (.x0 false t6)) (.go ⟨IntKind.i64.wrap (t6 + 1)⟩)) (.bad)) (.bad)) (.out (.x1 t6))
noncomputable def o11b_0 (os hs : List (List AV)) (st tl th : Int) (ms t3_0 t3_1 : List (List AV)) (t3_2 t3_3 t3_4 : Int) (t3_5 : List (List AV)) (t4 t4' : Bool) (t6 : Int) : St :=
  { t := [(2, .rp [.sl 32, .sl 55, .int .i64, .int .i64, .int .i64, .sl 67] [.rs 32 os, .rs 55 hs, .i .i64 st, .i .i64 tl, .i .i64 th, .rs 67 ms] 0), (3, .rp [.sl 32, .sl 55, .int .i64, .int .i64, .int .i64, .sl 67] [.rs 32 t3_0, .rs 55 t3_1, .i .i64 t3_2, .i .i64 t3_3, .i .i64 t3_4, .rs 67 t3_5] 0), (4, .b t4'), (6, .i .i64 t6)], m := [], nx := 0, nt := 111 }
noncomputable def o11b_1 (os hs : List (List AV)) (st tl th : Int) (ms t3_0 t3_1 : List (List AV)) (t3_2 t3_3 t3_4 : Int) (t3_5 : List (List AV)) (t4 : Bool) (t6 : Int) : St :=
  { t := [(2, .rp [.sl 32, .sl 55, .int .i64, .int .i64, .int .i64, .sl 67] [.rs 32 os, .rs 55 hs, .i .i64 st, .i .i64 tl, .i .i64 th, .rs 67 ms] 0), (3, .rp [.sl 32, .sl 55, .int .i64, .int .i64, .int .i64, .sl 67] [.rs 32 t3_0, .rs 55 t3_1, .i .i64 t3_2, .i .i64 t3_3, .i .i64 t3_4, .rs 67 t3_5] 0), (4, .b t4), (6, .i .i64 t6)], m := [], nx := 0, nt := 111 }
noncomputable def ou11b (os hs : List (List AV)) (st tl th : Int) (ms t3_0 t3_1 : List (List AV)) (t3_2 t3_3 t3_4 : Int) (t3_5 : List (List AV)) (t4 : Bool) : T11b → Ex × St
  | .x0 t4' t6 => (.ret, o11b_0 os hs st tl th ms t3_0 t3_1 t3_2 t3_3 t3_4 t3_5 t4 t4' t6)
  | .x1 t6 => (.ext 2, o11b_1 os hs st tl th ms t3_0 t3_1 t3_2 t3_3 t3_4 t3_5 t4 t6)
noncomputable def r11b (os hs : List (List AV)) (st tl th : Int) (ms t3_0 t3_1 : List (List AV)) (t3_2 t3_3 t3_4 : Int) (t3_5 : List (List AV)) (t4 : Bool) (t6 : Int) : Option T11b := run (fun x => stp11b os hs st tl th ms t3_0 t3_1 t3_2 t3_3 t3_4 t3_5 t4 x.t6) (⟨t6⟩ : S11b)
noncomputable def i11b_0 (os hs : List (List AV)) (st tl th : Int) (ms t3_0 t3_1 : List (List AV)) (t3_2 t3_3 t3_4 : Int) (t3_5 : List (List AV)) (t4 : Bool) (t6 : Int) : Bool := match r11b os hs st tl th ms t3_0 t3_1 t3_2 t3_3 t3_4 t3_5 t4 t6 with
  | some (.x0 _ _) => true
  | _ => false
noncomputable def v11b_0_t4' (os hs : List (List AV)) (st tl th : Int) (ms t3_0 t3_1 : List (List AV)) (t3_2 t3_3 t3_4 : Int) (t3_5 : List (List AV)) (t4 : Bool) (t6 : Int) : Bool := match r11b os hs st tl th ms t3_0 t3_1 t3_2 t3_3 t3_4 t3_5 t4 t6 with
  | some (.x0 t4' _) => t4'
  | _ => default
noncomputable def v11b_0_t6 (os hs : List (List AV)) (st tl th : Int) (ms t3_0 t3_1 : List (List AV)) (t3_2 t3_3 t3_4 : Int) (t3_5 : List (List AV)) (t4 : Bool) (t6 : Int) : Int := match r11b os hs st tl th ms t3_0 t3_1 t3_2 t3_3 t3_4 t3_5 t4 t6 with
  | some (.x0 _ t6) => t6
  | _ => default
noncomputable def i11b_1 (os hs : List (List AV)) (st tl th : Int) (ms t3_0 t3_1 : List (List AV)) (t3_2 t3_3 t3_4 : Int) (t3_5 : List (List AV)) (t4 : Bool) (t6 : Int) : Bool := match r11b os hs st tl th ms t3_0 t3_1 t3_2 t3_3 t3_4 t3_5 t4 t6 with
  | some (.x1 _) => true
  | _ => false
noncomputable def v11b_1_t6 (os hs : List (List AV)) (st tl th : Int) (ms t3_0 t3_1 : List (List AV)) (t3_2 t3_3 t3_4 : Int) (t3_5 : List (List AV)) (t4 : Bool) (t6 : Int) : Int := match r11b os hs st tl th ms t3_0 t3_1 t3_2 t3_3 t3_4 t3_5 t4 t6 with
  | some (.x1 t6) => t6
  | _ => default
noncomputable def q11b (os hs : List (List AV)) (st tl th : Int) (ms t3_0 t3_1 : List (List AV)) (t3_2 t3_3 t3_4 : Int) (t3_5 : List (List AV)) (t4 : Bool) (t6 : Int) : List (Bool × Ex × St) := [(i11b_0 os hs st tl th ms t3_0 t3_1 t3_2 t3_3 t3_4 t3_5 t4 t6, .ret, o11b_0 os hs st tl th ms t3_0 t3_1 t3_2 t3_3 t3_4 t3_5 t4 (v11b_0_t4' os hs st tl th ms t3_0 t3_1 t3_2 t3_3 t3_4 t3_5 t4 t6) (v11b_0_t6 os hs st tl th ms t3_0 t3_1 t3_2 t3_3 t3_4 t3_5 t4 t6)), (i11b_1 os hs st tl th ms t3_0 t3_1 t3_2 t3_3 t3_4 t3_5 t4 t6, .ext 2, o11b_1 os hs st tl th ms t3_0 t3_1 t3_2 t3_3 t3_4 t3_5 t4 (v11b_1_t6 os hs st tl th ms t3_0 t3_1 t3_2 t3_3 t3_4 t3_5 t4 t6))]
noncomputable def l11b (st : St) : Option (List (Bool × Ex × St)) := qget [.rp [.sl 32, .sl 55, .int .i64, .int .i64, .int .i64, .sl 67] [.rs 32, .rs 55, .i .i64, .i .i64, .i .i64, .rs 67] 0, .rp [.sl 32, .sl 55, .int .i64, .int .i64, .int .i64, .sl 67] [.rs 32, .rs 55, .i .i64, .i .i64, .i .i64, .rs 67] 0, .b, .i .i64] [] 0 111 (normW Try.prog [(2, none), (3, none), (4, none), (6, none)] 0 st) fun ls => q11b (lLL ls 0) (lLL ls 1) (lI ls 2) (lI ls 3) (lI ls 4) (lLL ls 5) (lLL ls 6) (lLL ls 7) (lI ls 8) (lI ls 9) (lI ls 10) (lLL ls 11) (lB ls 12) (lI ls 13)
noncomputable def lp11c : Code := loopAt c11 [true, true, true, true, false, true, false]
noncomputable def s11c (os hs : List (List AV)) (st tl th : Int) (ms t3_0 t3_1 : List (List AV)) (t3_2 t3_3 t3_4 : Int) (t3_5 : List (List AV)) (t4 : Bool) (t7 : Int) : St :=
  { t := [(2, .rp [.sl 32, .sl 55, .int .i64, .int .i64, .int .i64, .sl 67] [.rs 32 os, .rs 55 hs, .i .i64 st, .i .i64 tl, .i .i64 th, .rs 67 ms] 0), (3, .rp [.sl 32, .sl 55, .int .i64, .int .i64, .int .i64, .sl 67] [.rs 32 t3_0, .rs 55 t3_1, .i .i64 t3_2, .i .i64 t3_3, .i .i64 t3_4, .rs 67 t3_5] 0), (4, .b t4), (7, .i .i64 t7)], m := [], nx := 0, nt := 111 }
structure S11c where
  t7 : Int
inductive T11c where
  | x0 (t4' : Bool) (t7 : Int)
  | x1 (t7 : Int)
noncomputable def stp11c (os hs : List (List AV)) (st tl th : Int) (ms t3_0 t3_1 : List (List AV)) (t3_2 t3_3 t3_4 : Int) (t3_5 : List (List AV)) (t4 : Bool) (t7 : Int) : Lp S11c T11c :=
  cond (decide (t7 < (↑hs.length : Int))) (cond (inb t7 hs.length) (cond (inb t7 t3_1.length) (cond (!(fI (hs.getD t7.toNat []) 0 == fI (t3_1.getD t7.toNat []) 0 && fI (hs.getD t7.toNat []) 1 == fI (t3_1.getD t7.toNat []) 1 && (fI (hs.getD t7.toNat []) 2 == fI (t3_1.getD t7.toNat []) 2 && fI (hs.getD t7.toNat []) 3 == fI (t3_1.getD t7.toNat []) 3))) (.out (.x0 false t7)) (.go ⟨IntKind.i64.wrap (t7 + 1)⟩)) (.bad)) (.bad)) (.out (.x1 t7))
noncomputable def o11c_0 (os hs : List (List AV)) (st tl th : Int) (ms t3_0 t3_1 : List (List AV)) (t3_2 t3_3 t3_4 : Int) (t3_5 : List (List AV)) (t4 t4' : Bool) (t7 : Int) : St :=
  { t := [(2, .rp [.sl 32, .sl 55, .int .i64, .int .i64, .int .i64, .sl 67] [.rs 32 os, .rs 55 hs, .i .i64 st, .i .i64 tl, .i .i64 th, .rs 67 ms] 0), (3, .rp [.sl 32, .sl 55, .int .i64, .int .i64, .int .i64, .sl 67] [.rs 32 t3_0, .rs 55 t3_1, .i .i64 t3_2, .i .i64 t3_3, .i .i64 t3_4, .rs 67 t3_5] 0), (4, .b t4'), (7, .i .i64 t7)], m := [], nx := 0, nt := 111 }
noncomputable def o11c_1 (os hs : List (List AV)) (st tl th : Int) (ms t3_0 t3_1 : List (List AV)) (t3_2 t3_3 t3_4 : Int) (t3_5 : List (List AV)) (t4 : Bool) (t7 : Int) : St :=
  { t := [(2, .rp [.sl 32, .sl 55, .int .i64, .int .i64, .int .i64, .sl 67] [.rs 32 os, .rs 55 hs, .i .i64 st, .i .i64 tl, .i .i64 th, .rs 67 ms] 0), (3, .rp [.sl 32, .sl 55, .int .i64, .int .i64, .int .i64, .sl 67] [.rs 32 t3_0, .rs 55 t3_1, .i .i64 t3_2, .i .i64 t3_3, .i .i64 t3_4, .rs 67 t3_5] 0), (4, .b t4), (7, .i .i64 t7)], m := [], nx := 0, nt := 111 }
noncomputable def ou11c (os hs : List (List AV)) (st tl th : Int) (ms t3_0 t3_1 : List (List AV)) (t3_2 t3_3 t3_4 : Int) (t3_5 : List (List AV)) (t4 : Bool) : T11c → Ex × St
  | .x0 t4' t7 => (.ret, o11c_0 os hs st tl th ms t3_0 t3_1 t3_2 t3_3 t3_4 t3_5 t4 t4' t7)
  | .x1 t7 => (.ext 4, o11c_1 os hs st tl th ms t3_0 t3_1 t3_2 t3_3 t3_4 t3_5 t4 t7)
noncomputable def r11c (os hs : List (List AV)) (st tl th : Int) (ms t3_0 t3_1 : List (List AV)) (t3_2 t3_3 t3_4 : Int) (t3_5 : List (List AV)) (t4 : Bool) (t7 : Int) : Option T11c := run (fun x => stp11c os hs st tl th ms t3_0 t3_1 t3_2 t3_3 t3_4 t3_5 t4 x.t7) (⟨t7⟩ : S11c)
noncomputable def i11c_0 (os hs : List (List AV)) (st tl th : Int) (ms t3_0 t3_1 : List (List AV)) (t3_2 t3_3 t3_4 : Int) (t3_5 : List (List AV)) (t4 : Bool) (t7 : Int) : Bool := match r11c os hs st tl th ms t3_0 t3_1 t3_2 t3_3 t3_4 t3_5 t4 t7 with
  | some (.x0 _ _) => true
  | _ => false
noncomputable def v11c_0_t4' (os hs : List (List AV)) (st tl th : Int) (ms t3_0 t3_1 : List (List AV)) (t3_2 t3_3 t3_4 : Int) (t3_5 : List (List AV)) (t4 : Bool) (t7 : Int) : Bool := match r11c os hs st tl th ms t3_0 t3_1 t3_2 t3_3 t3_4 t3_5 t4 t7 with
  | some (.x0 t4' _) => t4'
  | _ => default
noncomputable def v11c_0_t7 (os hs : List (List AV)) (st tl th : Int) (ms t3_0 t3_1 : List (List AV)) (t3_2 t3_3 t3_4 : Int) (t3_5 : List (List AV)) (t4 : Bool) (t7 : Int) : Int := match r11c os hs st tl th ms t3_0 t3_1 t3_2 t3_3 t3_4 t3_5 t4 t7 with
  | some (.x0 _ t7) => t7
  | _ => default
noncomputable def i11c_1 (os hs : List (List AV)) (st tl th : Int) (ms t3_0 t3_1 : List (List AV)) (t3_2 t3_3 t3_4 : Int) (t3_5 : List (List AV)) (t4 : Bool) (t7 : Int) : Bool := match r11c os hs st tl th ms t3_0 t3_1 t3_2 t3_3 t3_4 t3_5 t4 t7 with
  | some (.x1 _) => true
  | _ => false
noncomputable def v11c_1_t7 (os hs : List (List AV)) (st tl th : Int) (ms t3_0 t3_1 : List (List AV)) (t3_2 t3_3 t3_4 : Int) (t3_5 : List (List AV)) (t4 : Bool) (t7 : Int) : Int := match r11c os hs st tl th ms t3_0 t3_1 t3_2 t3_3 t3_4 t3_5 t4 t7 with
  | some (.x1 t7) => t7
  | _ => default
noncomputable def q11c (os hs : List (List AV)) (st tl th : Int) (ms t3_0 t3_1 : List (List AV)) (t3_2 t3_3 t3_4 : Int) (t3_5 : List (List AV)) (t4 : Bool) (t7 : Int) : List (Bool × Ex × St) := [(i11c_0 os hs st tl th ms t3_0 t3_1 t3_2 t3_3 t3_4 t3_5 t4 t7, .ret, o11c_0 os hs st tl th ms t3_0 t3_1 t3_2 t3_3 t3_4 t3_5 t4 (v11c_0_t4' os hs st tl th ms t3_0 t3_1 t3_2 t3_3 t3_4 t3_5 t4 t7) (v11c_0_t7 os hs st tl th ms t3_0 t3_1 t3_2 t3_3 t3_4 t3_5 t4 t7)), (i11c_1 os hs st tl th ms t3_0 t3_1 t3_2 t3_3 t3_4 t3_5 t4 t7, .ext 4, o11c_1 os hs st tl th ms t3_0 t3_1 t3_2 t3_3 t3_4 t3_5 t4 (v11c_1_t7 os hs st tl th ms t3_0 t3_1 t3_2 t3_3 t3_4 t3_5 t4 t7))]
noncomputable def l11c (st : St) : Option (List (Bool × Ex × St)) := qget [.rp [.sl 32, .sl 55, .int .i64, .int .i64, .int .i64, .sl 67] [.rs 32, .rs 55, .i .i64, .i .i64, .i .i64, .rs 67] 0, .rp [.sl 32, .sl 55, .int .i64, .int .i64, .int .i64, .sl 67] [.rs 32, .rs 55, .i .i64, .i .i64, .i .i64, .rs 67] 0, .b, .i .i64] [] 0 111 (normW Try.prog [(2, none), (3, none), (4, none), (7, none)] 0 st) fun ls => q11c (lLL ls 0) (lLL ls 1) (lI ls 2) (lI ls 3) (lI ls 4) (lLL ls 5) (lLL ls 6) (lLL ls 7) (lI ls 8) (lI ls 9) (lI ls 10) (lLL ls 11) (lB ls 12) (lI ls 13)
noncomputable def L11 : LSpec := fun p st => match p with
  | [false, true, false, true, true] => l11a st
  | [false, true, false, true, true, true] => l11b st
  | [false, true, false, true, true, true, true] => l11c st
  | _ => none
theorem is11a_0 (os hs : List (List AV)) (st tl th : Int) (ms t3_0 t3_1 : List (List AV)) (t3_2 t3_3 t3_4 : Int) (t3_5 : List (List AV)) (t4 : Bool) (t5 : Int) (h : i11a_0 os hs st tl th ms t3_0 t3_1 t3_2 t3_3 t3_4 t3_5 t4 t5 = true) : r11a os hs st tl th ms t3_0 t3_1 t3_2 t3_3 t3_4 t3_5 t4 t5 = some (.x0 (v11a_0_t4' os hs st tl th ms t3_0 t3_1 t3_2 t3_3 t3_4 t3_5 t4 t5) (v11a_0_t5 os hs st tl th ms t3_0 t3_1 t3_2 t3_3 t3_4 t3_5 t4 t5)) := by
  unfold i11a_0 at h
  unfold v11a_0_t4' v11a_0_t5
  generalize r11a os hs st tl th ms t3_0 t3_1 t3_2 t3_3 t3_4 t3_5 t4 t5 = r at h ⊢
  rcases r with _ | y
  · cases h
  · cases y <;> first | rfl | cases h
theorem is11a_1 (os hs : List (List AV)) (st tl th : Int) (ms t3_0 t3_1 : List (List AV)) (t3_2 t3_3 t3_4 : Int) (t3_5 : List (List AV)) (t4 : Bool) (t5 : Int) (h : i11a_1 os hs st tl th ms t3_0 t3_1 t3_2 t3_3 t3_4 t3_5 t4 t5 = true) : r11a os hs st tl th ms t3_0 t3_1 t3_2 t3_3 t3_4 t3_5 t4 t5 = some (.x1 (v11a_1_t5 os hs st tl th ms t3_0 t3_1 t3_2 t3_3 t3_4 t3_5 t4 t5)) := by
  unfold i11a_1 at h
  unfold v11a_1_t5
  generalize r11a os hs st tl th ms t3_0 t3_1 t3_2 t3_3 t3_4 t3_5 t4 t5 = r at h ⊢
  rcases r with _ | y
  · cases h
  · cases y <;> first | rfl | cases h
theorem round11a (os hs : List (List AV)) (st tl th : Int) (ms t3_0 t3_1 : List (List AV)) (t3_2 t3_3 t3_4 : Int) (t3_5 : List (List AV)) (t4 : Bool) (t5 : Int) : round Try.prog SW1 (ro 11) L11 lp11a [false, true, false, true, true] [(2, none), (3, none), (4, none), (5, none)] 0 (s11a os hs st tl th ms t3_0 t3_1 t3_2 t3_3 t3_4 t3_5 t4 t5) =
    cond (decide (t5 < (↑ms.length : Int))) (cond (inb t5 ms.length) (cond (inb t5 t3_5.length) (cond (!(fI (ms.getD t5.toNat []) 0 == fI (t3_5.getD t5.toNat []) 0 && fI (ms.getD t5.toNat []) 1 == fI (t3_5.getD t5.toNat []) 1 && (fI (ms.getD t5.toNat []) 2 == fI (t3_5.getD t5.toNat []) 2 && fI (ms.getD t5.toNat []) 3 == fI (t3_5.getD t5.toNat []) 3))) (some (.ret, o11a_0 os hs st tl th ms t3_0 t3_1 t3_2 t3_3 t3_4 t3_5 t4 false t5)) (some (.nrm, s11a os hs st tl th ms t3_0 t3_1 t3_2 t3_3 t3_4 t3_5 t4 (IntKind.i64.wrap (t5 + 1))))) (none)) (none)) (some (.ext 0, o11a_1 os hs st tl th ms t3_0 t3_1 t3_2 t3_3 t3_4 t3_5 t4 t5)) := by kernel_rfl
theorem rnd11a (os hs : List (List AV)) (st tl th : Int) (ms t3_0 t3_1 : List (List AV)) (t3_2 t3_3 t3_4 : Int) (t3_5 : List (List AV)) (t4 : Bool) (x : S11a) : round Try.prog SW1 (ro 11) L11 lp11a [false, true, false, true, true] [(2, none), (3, none), (4, none), (5, none)] 0 ((fun x => s11a os hs st tl th ms t3_0 t3_1 t3_2 t3_3 t3_4 t3_5 t4 x.t5) x) = toR (fun x => s11a os hs st tl th ms t3_0 t3_1 t3_2 t3_3 t3_4 t3_5 t4 x.t5) (ou11a os hs st tl th ms t3_0 t3_1 t3_2 t3_3 t3_4 t3_5 t4) (stp11a os hs st tl th ms t3_0 t3_1 t3_2 t3_3 t3_4 t3_5 t4 x.t5) := by
  refine (round11a _ _ _ _ _ _ _ _ _ _ _ _ _ _ ).trans ?_
  unfold stp11a
  simp only [toR_cond]
  rfl
theorem lokb11a (os hs : List (List AV)) (st tl th : Int) (ms t3_0 t3_1 : List (List AV)) (t3_2 t3_3 t3_4 : Int) (t3_5 : List (List AV)) (t4 : Bool) (t5 : Int) {e : Ex} {s : St} (hch : Chosen (q11a os hs st tl th ms t3_0 t3_1 t3_2 t3_3 t3_4 t3_5 t4 t5) e s) : LB Try.prog SW1 (ro 11) L11 lp11a [false, true, false, true, true] [(2, none), (3, none), (4, none), (5, none)] 0 (s11a os hs st tl th ms t3_0 t3_1 t3_2 t3_3 t3_4 t3_5 t4 t5) e s := by
  unfold q11a at hch
  have main := fun y h => LB_run (x := (⟨t5⟩ : S11a)) (y := y) (nb := 0) (fun y => by cases y <;> simp [ou11a]) (rnd11a os hs st tl th ms t3_0 t3_1 t3_2 t3_3 t3_4 t3_5 t4) h
  obtain ⟨x, hx, hg, rfl, rfl⟩ := chosen_any hch
  simp only [List.mem_cons, List.not_mem_nil, or_false] at hx
  rcases hx with rfl | rfl
  · exact main _ (is11a_0 os hs st tl th ms t3_0 t3_1 t3_2 t3_3 t3_4 t3_5 t4 t5 hg)
  · exact main _ (is11a_1 os hs st tl th ms t3_0 t3_1 t3_2 t3_3 t3_4 t3_5 t4 t5 hg)
theorem lok11a {st : St} {outs : List (Bool × Ex × St)} {e : Ex} {s : St} (hl : l11a st = some outs) (hch : Chosen outs e s) :
    ∃ keep nb, 0 ≤ nb ∧ LB Try.prog SW1 (ro 11) L11 lp11a [false, true, false, true, true] keep nb st e s := by
  unfold l11a at hl
  obtain ⟨ls, hno, rfl⟩ := qget_some hl
  have hno := normW_norm hno
  refine ⟨_, _, ?_, .enterQ hno (s2 := s11a (lLL ls 0) (lLL ls 1) (lI ls 2) (lI ls 3) (lI ls 4) (lLL ls 5) (lLL ls 6) (lLL ls 7) (lI ls 8) (lI ls 9) (lI ls 10) (lLL ls 11) (lB ls 12) (lI ls 13)) (by kernel_rfl) (lokb11a _ _ _ _ _ _ _ _ _ _ _ _ _ _ hch)⟩
  decide
theorem is11b_0 (os hs : List (List AV)) (st tl th : Int) (ms t3_0 t3_1 : List (List AV)) (t3_2 t3_3 t3_4 : Int) (t3_5 : List (List AV)) (t4 : Bool) (t6 : Int) (h : i11b_0 os hs st tl th ms t3_0 t3_1 t3_2 t3_3 t3_4 t3_5 t4 t6 = true) : r11b os hs st tl th ms t3_0 t3_1 t3_2 t3_3 t3_4 t3_5 t4 t6 = some (.x0 (v11b_0_t4' os hs st tl th ms t3_0 t3_1 t3_2 t3_3 t3_4 t3_5 t4 t6) (v11b_0_t6 os hs st tl th ms t3_0 t3_1 t3_2 t3_3 t3_4 t3_5 t4 t6)) := by
  unfold i11b_0 at h
  unfold v11b_0_t4' v11b_0_t6
  generalize r11b os hs st tl th ms t3_0 t3_1 t3_2 t3_3 t3_4 t3_5 t4 t6 = r at h ⊢
  rcases r with _ | y
  · cases h
  · cases y <;> first | rfl | cases h
theorem is11b_1 (os hs : List (List AV)) (st tl th : Int) (ms t3_0 t3_1 : List (List AV)) (t3_2 t3_3 t3_4 : Int) (t3_5 : List (List AV)) (t4 : Bool) (t6 : Int) (h : i11b_1 os hs st tl th ms t3_0 t3_1 t3_2 t3_3 t3_4 t3_5 t4 t6 = true) : r11b os hs st tl th ms t3_0 t3_1 t3_2 t3_3 t3_4 t3_5 t4 t6 = some (.x1 (v11b_1_t6 os hs st tl th ms t3_0 t3_1 t3_2 t3_3 t3_4 t3_5 t4 t6)) := by
  unfold i11b_1 at h
  unfold v11b_1_t6
  generalize r11b os hs st tl th ms t3_0 t3_1 t3_2 t3_3 t3_4 t3_5 t4 t6 = r at h ⊢
  rcases r with _ | y
  · cases h
  · cases y <;> first | rfl | cases h
theorem round11b (os hs : List (List AV)) (st tl th : Int) (ms t3_0 t3_1 : List (List AV)) (t3_2 t3_3 t3_4 : Int) (t3_5 : List (List AV)) (t4 : Bool) (t6 : Int) : round Try.prog SW1 (ro 11) L11 lp11b [false, true, false, true, true, true] [(2, none), (3, none), (4, none), (6, none)] 0 (s11b os hs st tl th ms t3_0 t3_1 t3_2 t3_3 t3_4 t3_5 t4 t6) =
    cond (decide (t6 < (↑os.length : Int))) (cond (inb t6 os.length) (cond (inb t6 t3_0.length) (cond (!(fI (os.getD t6.toNat []) 0 == fI (t3_0.getD t6.toNat []) 0 && fI (os.getD t6.toNat []) 1 == fI (t3_0.getD t6.toNat []) 1)) (some (.ret, o11b_0 os hs st tl th ms t3_0 t3_1 t3_2 t3_3 t3_4 t3_5 t4 false t6)) (some (.nrm, s11b os hs st tl th ms t3_0 t3_1 t3_2 t3_3 t3_4 t3_5 t4 (IntKind.i64.wrap (t6 + 1))))) (none)) (none)) (some (.ext 2, o11b_1 os hs st tl th ms t3_0 t3_1 t3_2 t3_3 t3_4 t3_5 t4 t6)) := by kernel_rfl
theorem rnd11b (os hs : List (List AV)) (st tl th : Int) (ms t3_0 t3_1 : List (List AV)) (t3_2 t3_3 t3_4 : Int) (t3_5 : List (List AV)) (t4 : Bool) (x : S11b) : round Try.prog SW1 (ro 11) L11 lp11b [false, true, false, true, true, true] [(2, none), (3, none), (4, none), (6, none)] 0 ((fun x => s11b os hs st tl th ms t3_0 t3_1 t3_2 t3_3 t3_4 t3_5 t4 x.t6) x) = toR (fun x => s11b os hs st tl th ms t3_0 t3_1 t3_2 t3_3 t3_4 t3_5 t4 x.t6) (ou11b os hs st tl th ms t3_0 t3_1 t3_2 t3_3 t3_4 t3_5 t4) (stp11b os hs st tl th ms t3_0 t3_1 t3_2 t3_3 t3_4 t3_5 t4 x.t6) := by
  refine (round11b _ _ _ _ _ _ _ _ _ _ _ _ _ _ ).trans ?_
  unfold stp11b
  simp only [toR_cond]
  rfl
theorem lokb11b (os hs : List (List AV)) (st tl th : Int) (ms t3_0 t3_1 : List (List AV)) (t3_2 t3_3 t3_4 : Int) (t3_5 : List (List AV)) (t4 : Bool) (t6 : Int) {e : Ex} {s : St} (hch : Chosen (q11b os hs st tl th ms t3_0 t3_1 t3_2 t3_3 t3_4 t3_5 t4 t6) e s) : LB Try.prog SW1 (ro 11) L11 lp11b [false, true, false, true, true, true] [(2, none), (3, none), (4, none), (6, none)] 0 (s11b os hs st tl th ms t3_0 t3_1 t3_2 t3_3 t3_4 t3_5 t4 t6) e s := by
  unfold q11b at hch
  have main := fun y h => LB_run (x := (⟨t6⟩ : S11b)) (y := y) (nb := 0) (fun y => by cases y <;> simp [ou11b]) (rnd11b os hs st tl th ms t3_0 t3_1 t3_2 t3_3 t3_4 t3_5 t4) h
  obtain ⟨x, hx, hg, rfl, rfl⟩ := chosen_any hch
  simp only [List.mem_cons, List.not_mem_nil, or_false] at hx
  rcases hx with rfl | rfl
  · exact main _ (is11b_0 os hs st tl th ms t3_0 t3_1 t3_2 t3_3 t3_4 t3_5 t4 t6 hg)
  · exact main _ (is11b_1 os hs st tl th ms t3_0 t3_1 t3_2 t3_3 t3_4 t3_5 t4 t6 hg)
theorem lok11b {st : St} {outs : List (Bool × Ex × St)} {e : Ex} {s : St} (hl : l11b st = some outs) (hch : Chosen outs e s) :
    ∃ keep nb, 0 ≤ nb ∧ LB Try.prog SW1 (ro 11) L11 lp11b [false, true, false, true, true, true] keep nb st e s := by
  unfold l11b at hl
  obtain ⟨ls, hno, rfl⟩ := qget_some hl
  have hno := normW_norm hno
  refine ⟨_, _, ?_, .enterQ hno (s2 := s11b (lLL ls 0) (lLL ls 1) (lI ls 2) (lI ls 3) (lI ls 4) (lLL ls 5) (lLL ls 6) (lLL ls 7) (lI ls 8) (lI ls 9) (lI ls 10) (lLL ls 11) (lB ls 12) (lI ls 13)) (by kernel_rfl) (lokb11b _ _ _ _ _ _ _ _ _ _ _ _ _ _ hch)⟩
  decide
theorem is11c_0 (os hs : List (List AV)) (st tl th : Int) (ms t3_0 t3_1 : List (List AV)) (t3_2 t3_3 t3_4 : Int) (t3_5 : List (List AV)) (t4 : Bool) (t7 : Int) (h : i11c_0 os hs st tl th ms t3_0 t3_1 t3_2 t3_3 t3_4 t3_5 t4 t7 = true) : r11c os hs st tl th ms t3_0 t3_1 t3_2 t3_3 t3_4 t3_5 t4 t7 = some (.x0 (v11c_0_t4' os hs st tl th ms t3_0 t3_1 t3_2 t3_3 t3_4 t3_5 t4 t7) (v11c_0_t7 os hs st tl th ms t3_0 t3_1 t3_2 t3_3 t3_4 t3_5 t4 t7)) := by
  unfold i11c_0 at h
  unfold v11c_0_t4' v11c_0_t7
  generalize r11c os hs st tl th ms t3_0 t3_1 t3_2 t3_3 t3_4 t3_5 t4 t7 = r at h ⊢
  rcases r with _ | y
  · cases h
  · cases y <;> first | rfl | cases h
theorem is11c_1 (os hs : List (List AV)) (st tl th : Int) (ms t3_0 t3_1 : List (List AV)) (t3_2 t3_3 t3_4 : Int) (t3_5 : List (List AV)) (t4 : Bool) (t7 : Int) (h : i11c_1 os hs st tl th ms t3_0 t3_1 t3_2 t3_3 t3_4 t3_5 t4 t7 = true) : r11c os hs st tl th ms t3_0 t3_1 t3_2 t3_3 t3_4 t3_5 t4 t7 = some (.x1 (v11c_1_t7 os hs st tl th ms t3_0 t3_1 t3_2 t3_3 t3_4 t3_5 t4 t7)) := by
  unfold i11c_1 at h
  unfold v11c_1_t7
  generalize r11c os hs st tl th ms t3_0 t3_1 t3_2 t3_3 t3_4 t3_5 t4 t7 = r at h ⊢
  rcases r with _ | y
  · cases h
  · cases y <;> first | rfl | cases h
theorem round11c (os hs : List (List AV)) (st tl th : Int) (ms t3_0 t3_1 : List (List AV)) (t3_2 t3_3 t3_4 : Int) (t3_5 : List (List AV)) (t4 : Bool) (t7 : Int) : round Try.prog SW1 (ro 11) L11 lp11c [false, true, false, true, true, true, true] [(2, none), (3, none), (4, none), (7, none)] 0 (s11c os hs st tl th ms t3_0 t3_1 t3_2 t3_3 t3_4 t3_5 t4 t7) =
    cond (decide (t7 < (↑hs.length : Int))) (cond (inb t7 hs.length) (cond (inb t7 t3_1.length) (cond (!(fI (hs.getD t7.toNat []) 0 == fI (t3_1.getD t7.toNat []) 0 && fI (hs.getD t7.toNat []) 1 == fI (t3_1.getD t7.toNat []) 1 && (fI (hs.getD t7.toNat []) 2 == fI (t3_1.getD t7.toNat []) 2 && fI (hs.getD t7.toNat []) 3 == fI (t3_1.getD t7.toNat []) 3))) (some (.ret, o11c_0 os hs st tl th ms t3_0 t3_1 t3_2 t3_3 t3_4 t3_5 t4 false t7)) (some (.nrm, s11c os hs st tl th ms t3_0 t3_1 t3_2 t3_3 t3_4 t3_5 t4 (IntKind.i64.wrap (t7 + 1))))) (none)) (none)) (some (.ext 4, o11c_1 os hs st tl th ms t3_0 t3_1 t3_2 t3_3 t3_4 t3_5 t4 t7)) := by kernel_rfl
theorem rnd11c (os hs : List (List AV)) (st tl th : Int) (ms t3_0 t3_1 : List (List AV)) (t3_2 t3_3 t3_4 : Int) (t3_5 : List (List AV)) (t4 : Bool) (x : S11c) : round Try.prog SW1 (ro 11) L11 lp11c [false, true, false, true, true, true, true] [(2, none), (3, none), (4, none), (7, none)] 0 ((fun x => s11c os hs st tl th ms t3_0 t3_1 t3_2 t3_3 t3_4 t3_5 t4 x.t7) x) = toR (fun x => s11c os hs st tl th ms t3_0 t3_1 t3_2 t3_3 t3_4 t3_5 t4 x.t7) (ou11c os hs st tl th ms t3_0 t3_1 t3_2 t3_3 t3_4 t3_5 t4) (stp11c os hs st tl th ms t3_0 t3_1 t3_2 t3_3 t3_4 t3_5 t4 x.t7) := by
  refine (round11c _ _ _ _ _ _ _ _ _ _ _ _ _ _ ).trans ?_
  unfold stp11c
  simp only [toR_cond]
  rfl
theorem lokb11c (os hs : List (List AV)) (st tl th : Int) (ms t3_0 t3_1 : List (List AV)) (t3_2 t3_3 t3_4 : Int) (t3_5 : List (List AV)) (t4 : Bool) (t7 : Int) {e : Ex} {s : St} (hch : Chosen (q11c os hs st tl th ms t3_0 t3_1 t3_2 t3_3 t3_4 t3_5 t4 t7) e s) : LB Try.prog SW1 (ro 11) L11 lp11c [false, true, false, true, true, true, true] [(2, none), (3, none), (4, none), (7, none)] 0 (s11c os hs st tl th ms t3_0 t3_1 t3_2 t3_3 t3_4 t3_5 t4 t7) e s := by
  unfold q11c at hch
  have main := fun y h => LB_run (x := (⟨t7⟩ : S11c)) (y := y) (nb := 0) (fun y => by cases y <;> simp [ou11c]) (rnd11c os hs st tl th ms t3_0 t3_1 t3_2 t3_3 t3_4 t3_5 t4) h
  obtain ⟨x, hx, hg, rfl, rfl⟩ := chosen_any hch
  simp only [List.mem_cons, List.not_mem_nil, or_false] at hx
  rcases hx with rfl | rfl
  · exact main _ (is11c_0 os hs st tl th ms t3_0 t3_1 t3_2 t3_3 t3_4 t3_5 t4 t7 hg)
  · exact main _ (is11c_1 os hs st tl th ms t3_0 t3_1 t3_2 t3_3 t3_4 t3_5 t4 t7 hg)
theorem lok11c {st : St} {outs : List (Bool × Ex × St)} {e : Ex} {s : St} (hl : l11c st = some outs) (hch : Chosen outs e s) :
    ∃ keep nb, 0 ≤ nb ∧ LB Try.prog SW1 (ro 11) L11 lp11c [false, true, false, true, true, true, true] keep nb st e s := by
  unfold l11c at hl
  obtain ⟨ls, hno, rfl⟩ := qget_some hl
  have hno := normW_norm hno
  refine ⟨_, _, ?_, .enterQ hno (s2 := s11c (lLL ls 0) (lLL ls 1) (lI ls 2) (lI ls 3) (lI ls 4) (lLL ls 5) (lLL ls 6) (lLL ls 7) (lI ls 8) (lI ls 9) (lI ls 10) (lLL ls 11) (lB ls 12) (lI ls 13)) (by kernel_rfl) (lokb11c _ _ _ _ _ _ _ _ _ _ _ _ _ _ hch)⟩
  decide
theorem L11_ok (q : Pl) (c : Code) (hq : locate c11 q.reverse = some (.loop c)) (st : St) (outs : List (Bool × Ex × St)) (e : Ex) (s : St) (hl : L11 q st = some outs) (hch : Chosen outs e s) :
    ∃ keep nb, 0 ≤ nb ∧ LB Try.prog SW1 (ro 11) L11 c q keep nb st e s := by
  unfold L11 at hl
  split at hl
  · have : locate c11 ([false, true, false, true, true] : Pl).reverse = some (.loop lp11a) := by kernel_rfl
    rw [this] at hq
    cases hq
    exact lok11a hl hch
  · have : locate c11 ([false, true, false, true, true, true] : Pl).reverse = some (.loop lp11b) := by kernel_rfl
    rw [this] at hq
    cases hq
    exact lok11b hl hch
  · have : locate c11 ([false, true, false, true, true, true, true] : Pl).reverse = some (.loop lp11c) := by kernel_rfl
    rw [this] at hq
    cases hq
    exact lok11c hl hch
  · cases hl
theorem lok11 : LOK Try.prog SW1 (ro 11) L11 0 false c11 [] :=
  lok_lo L11_ok c11 [] false (locate_nil _) (by kernel_rfl)
noncomputable def t11 (os hs : List (List AV)) (st tl th : Int) (ms os' hs' : List (List AV)) (st' tl' th' : Int) (ms' : List (List AV)) : Tr ((Bool)) :=
  .cn (st != st') (.lf (false)) (.cn (!(tl == tl' && th == th')) (.lf (false)) (.cn ((↑ms.length : Int) != (↑ms'.length : Int)) (.lf (false)) (.cn ((↑os.length : Int) != (↑os'.length : Int)) (.lf (false)) (.cn ((↑hs.length : Int) != (↑hs'.length : Int)) (.lf (false)) (.cn (i11a_0 os hs st tl th ms os' hs' st' tl' th' ms' false 0) (.lf (v11a_0_t4' os hs st tl th ms os' hs' st' tl' th' ms' false 0)) (.cn (i11a_1 os hs st tl th ms os' hs' st' tl' th' ms' false 0) (.cn (i11b_0 os hs st tl th ms os' hs' st' tl' th' ms' false 0) (.lf (v11b_0_t4' os hs st tl th ms os' hs' st' tl' th' ms' false 0)) (.cn (i11b_1 os hs st tl th ms os' hs' st' tl' th' ms' false 0) (.cn (i11c_0 os hs st tl th ms os' hs' st' tl' th' ms' false 0) (.lf (v11c_0_t4' os hs st tl th ms os' hs' st' tl' th' ms' false 0)) (.cn (i11c_1 os hs st tl th ms os' hs' st' tl' th' ms' false 0) (.lf (true)) (.nn))) (.nn))) (.nn)))))))
noncomputable def g11 (os hs : List (List AV)) (st tl th : Int) (ms os' hs' : List (List AV)) (st' tl' th' : Int) (ms' : List (List AV)) : Bool := (t11 os hs st tl th ms os' hs' st' tl' th' ms').g
noncomputable def w11_0 (os hs : List (List AV)) (st tl th : Int) (ms os' hs' : List (List AV)) (st' tl' th' : Int) (ms' : List (List AV)) : Bool := (t11 os hs st tl th ms os' hs' st' tl' th' ms').val
theorem eq11 (os hs : List (List AV)) (st tl th : Int) (ms os' hs' : List (List AV)) (st' tl' th' : Int) (ms' : List (List AV)) : evF Try.prog SW1 (ro 11) L11 Try.f11 [.agg [.rs 32 os, .rs 55 hs, .i .i64 st, .i .i64 tl, .i .i64 th, .rs 67 ms], .agg [.rs 32 os', .rs 55 hs', .i .i64 st', .i .i64 tl', .i .i64 th', .rs 67 ms']] = (t11 os hs st tl th ms os' hs' st' tl' th' ms').opt (fun (x : (Bool)) => (.b x : AV)) := by kernel_rfl
theorem con11 (os hs : List (List AV)) (st tl th : Int) (ms os' hs' : List (List AV)) (st' tl' th' : Int) (ms' : List (List AV)) (h : g11 os hs st tl th ms os' hs' st' tl' th' ms' = true) : Con Try.prog 11 [.agg [.rs 32 os, .rs 55 hs, .i .i64 st, .i .i64 tl, .i .i64 th, .rs 67 ms], .agg [.rs 32 os', .rs 55 hs', .i .i64 st', .i .i64 tl', .i .i64 th', .rs 67 ms']] [] (.b (w11_0 os hs st tl th ms os' hs' st' tl' th' ms')) [] :=
  con_of SW1_ok mixed Try.func11 (c := c11) rfl (names 11 _ Try.func11) lok11 ((eq11 os hs st tl th ms os' hs' st' tl' th' ms').trans (Tr.sound _ _ h))
noncomputable def e11 (args : List AV) (rows : List Blk) : Option (Bool × AV × List Blk) := match args, rows with
  | [.agg [.rs 32 os, .rs 55 hs, .i .i64 st, .i .i64 tl, .i .i64 th, .rs 67 ms], .agg [.rs 32 os', .rs 55 hs', .i .i64 st', .i .i64 tl', .i .i64 th', .rs 67 ms']], [] => some (g11 os hs st tl th ms os' hs' st' tl' th' ms', .b (w11_0 os hs st tl th ms os' hs' st' tl' th' ms'), [])
  | _, _ => none
theorem e11_ok (args : List AV) (rows : List Blk) (pre : Bool) (v : AV) (rows' : List Blk) (h : e11 args rows = some (pre, v, rows')) (hp : pre = true) : Con Try.prog 11 args rows v rows' := by
  unfold e11 at h
  split at h
  · cases h; exact con11 _ _ _ _ _ _ _ _ _ _ _ _ hp
  · cases h
-- SPEC 11
end Go.Proofs.Ytoglnllbopcejaa

set_option maxRecDepth 100000
set_option maxHeartbeats 0
set_option linter.unusedVariables false
namespace Go.Proofs.Ytoglnllbopcejaa
open Go Go.Ev

noncomputable def c16 : Code := match Try.f16.body with | some c => c | _ => .skip
noncomputable def lp16a : Code := loopAt c16 [true, true, false, true, false]
noncomputable def s16a (hl : List (List AV)) (st lo hi u v t8 t9 t10 : Int) : St :=
  { t := [(0, .rs 76 hl), (1, .i .i64 st), (6, .rp [.int .i64, .int .i64] [.i .i64 lo, .i .i64 hi] 0), (7, .rp [.int .i64, .int .i64] [.i .i64 u, .i .i64 v] 0), (8, .i .i64 t8), (9, .i .i64 t9), (10, .i .i64 t10)], m := [], nx := 0, nt := 45 }
structure S16a where
  t9 : Int
  t10 : Int
inductive T16a where
  | x0 (t9 : Int) (t10 : Int)
noncomputable def stp16a (hl : List (List AV)) (st lo hi u v t8 t9 t10 : Int) : Lp S16a T16a :=
  cond (decide (t10 < (↑hl.length : Int))) (cond (inb t10 hl.length) (cond (inb t10 hl.length) (.go ⟨bmin t9 (IntKind.i64.wrap (bmax lo ((IntKind.i64.wrap (fI (hl.getD t10.toNat []) 2)).tmod 2001) + IntKind.i64.wrap (st * w38_0 u v (fI (hl.getD t10.toNat []) 0) (fI (hl.getD t10.toNat []) 1)))), IntKind.i64.wrap (t10 + 1)⟩) (.bad)) (.bad)) (.out (.x0 t9 t10))
noncomputable def o16a_0 (hl : List (List AV)) (st lo hi u v t8 t9 t10 : Int) : St :=
  { t := [(0, .rs 76 hl), (1, .i .i64 st), (6, .rp [.int .i64, .int .i64] [.i .i64 lo, .i .i64 hi] 0), (7, .rp [.int .i64, .int .i64] [.i .i64 u, .i .i64 v] 0), (8, .i .i64 t8), (9, .i .i64 t9), (10, .i .i64 t10)], m := [], nx := 0, nt := 45 }
noncomputable def ou16a (hl : List (List AV)) (st lo hi u v t8 : Int) : T16a → Ex × St
  | .x0 t9 t10 => (.ext 0, o16a_0 hl st lo hi u v t8 t9 t10)
noncomputable def r16a (hl : List (List AV)) (st lo hi u v t8 t9 t10 : Int) : Option T16a := run (fun x => stp16a hl st lo hi u v t8 x.t9 x.t10) (⟨t9, t10⟩ : S16a)
noncomputable def i16a_0 (hl : List (List AV)) (st lo hi u v t8 t9 t10 : Int) : Bool := match r16a hl st lo hi u v t8 t9 t10 with
  | some (.x0 _ _) => true
  | _ => false
noncomputable def v16a_0_t9 (hl : List (List AV)) (st lo hi u v t8 t9 t10 : Int) : Int := match r16a hl st lo hi u v t8 t9 t10 with
  | some (.x0 t9 _) => t9
  | _ => default
noncomputable def v16a_0_t10 (hl : List (List AV)) (st lo hi u v t8 t9 t10 : Int) : Int := match r16a hl st lo hi u v t8 t9 t10 with
  | some (.x0 _ t10) => t10
  | _ => default
noncomputable def q16a (hl : List (List AV)) (st lo hi u v t8 t9 t10 : Int) : List (Bool × Ex × St) := [(i16a_0 hl st lo hi u v t8 t9 t10, .ext 0, o16a_0 hl st lo hi u v t8 (v16a_0_t9 hl st lo hi u v t8 t9 t10) (v16a_0_t10 hl st lo hi u v t8 t9 t10))]
noncomputable def l16a (st : St) : Option (List (Bool × Ex × St)) := qget [.rs 76, .i .i64, .rp [.int .i64, .int .i64] [.i .i64, .i .i64] 0, .rp [.int .i64, .int .i64] [.i .i64, .i .i64] 0, .i .i64, .i .i64, .i .i64] [] 0 45 (normW Try.prog [(0, none), (1, none), (6, none), (7, none), (8, none), (9, none), (10, none)] 0 st) fun ls => q16a (lLL ls 0) (lI ls 1) (lI ls 2) (lI ls 3) (lI ls 4) (lI ls 5) (lI ls 6) (lI ls 7) (lI ls 8)
noncomputable def L16 : LSpec := fun p st => match p with
  | [false, true, false, true, true] => l16a st
  | _ => none
theorem is16a_0 (hl : List (List AV)) (st lo hi u v t8 t9 t10 : Int) (h : i16a_0 hl st lo hi u v t8 t9 t10 = true) : r16a hl st lo hi u v t8 t9 t10 = some (.x0 (v16a_0_t9 hl st lo hi u v t8 t9 t10) (v16a_0_t10 hl st lo hi u v t8 t9 t10)) := by
  unfold i16a_0 at h
  unfold v16a_0_t9 v16a_0_t10
  generalize r16a hl st lo hi u v t8 t9 t10 = r at h ⊢
  rcases r with _ | y
  · cases h
  · cases y <;> first | rfl | cases h
theorem round16a (hl : List (List AV)) (st lo hi u v t8 t9 t10 : Int) : round Try.prog SW1 (ro 16) L16 lp16a [false, true, false, true, true] [(0, none), (1, none), (6, none), (7, none), (8, none), (9, none), (10, none)] 0 (s16a hl st lo hi u v t8 t9 t10) =
    cond (decide (t10 < (↑hl.length : Int))) (cond (inb t10 hl.length) (cond (inb t10 hl.length) (some (.nrm, s16a hl st lo hi u v t8 (bmin t9 (IntKind.i64.wrap (bmax lo ((IntKind.i64.wrap (fI (hl.getD t10.toNat []) 2)).tmod 2001) + IntKind.i64.wrap (st * w38_0 u v (fI (hl.getD t10.toNat []) 0) (fI (hl.getD t10.toNat []) 1))))) (IntKind.i64.wrap (t10 + 1)))) (none)) (none)) (some (.ext 0, o16a_0 hl st lo hi u v t8 t9 t10)) := by kernel_rfl
theorem rnd16a (hl : List (List AV)) (st lo hi u v t8 : Int) (x : S16a) : round Try.prog SW1 (ro 16) L16 lp16a [false, true, false, true, true] [(0, none), (1, none), (6, none), (7, none), (8, none), (9, none), (10, none)] 0 ((fun x => s16a hl st lo hi u v t8 x.t9 x.t10) x) = toR (fun x => s16a hl st lo hi u v t8 x.t9 x.t10) (ou16a hl st lo hi u v t8) (stp16a hl st lo hi u v t8 x.t9 x.t10) := by
  refine (round16a _ _ _ _ _ _ _ _ _ ).trans ?_
  unfold stp16a
  simp only [toR_cond]
  rfl
theorem lokb16a (hl : List (List AV)) (st lo hi u v t8 t9 t10 : Int) {e : Ex} {s : St} (hch : Chosen (q16a hl st lo hi u v t8 t9 t10) e s) : LB Try.prog SW1 (ro 16) L16 lp16a [false, true, false, true, true] [(0, none), (1, none), (6, none), (7, none), (8, none), (9, none), (10, none)] 0 (s16a hl st lo hi u v t8 t9 t10) e s := by
  unfold q16a at hch
  have main := fun y h => LB_run (x := (⟨t9, t10⟩ : S16a)) (y := y) (nb := 0) (fun y => by cases y <;> simp [ou16a]) (rnd16a hl st lo hi u v t8) h
  obtain ⟨x, hx, hg, rfl, rfl⟩ := chosen_any hch
  simp only [List.mem_cons, List.not_mem_nil, or_false] at hx
  subst hx
  exact main _ (is16a_0 hl st lo hi u v t8 t9 t10 hg)
theorem lok16a {st : St} {outs : List (Bool × Ex × St)} {e : Ex} {s : St} (hl : l16a st = some outs) (hch : Chosen outs e s) :
    ∃ keep nb, 0 ≤ nb ∧ LB Try.prog SW1 (ro 16) L16 lp16a [false, true, false, true, true] keep nb st e s := by
  unfold l16a at hl
  obtain ⟨ls, hno, rfl⟩ := qget_some hl
  have hno := normW_norm hno
  refine ⟨_, _, ?_, .enterQ hno (s2 := s16a (lLL ls 0) (lI ls 1) (lI ls 2) (lI ls 3) (lI ls 4) (lI ls 5) (lI ls 6) (lI ls 7) (lI ls 8)) (by kernel_rfl) (lokb16a _ _ _ _ _ _ _ _ _ hch)⟩
  decide
theorem L16_ok (q : Pl) (c : Code) (hq : locate c16 q.reverse = some (.loop c)) (st : St) (outs : List (Bool × Ex × St)) (e : Ex) (s : St) (hl : L16 q st = some outs) (hch : Chosen outs e s) :
    ∃ keep nb, 0 ≤ nb ∧ LB Try.prog SW1 (ro 16) L16 c q keep nb st e s := by
  unfold L16 at hl
  split at hl
  · have : locate c16 ([false, true, false, true, true] : Pl).reverse = some (.loop lp16a) := by kernel_rfl
    rw [this] at hq
    cases hq
    exact lok16a hl hch
  · cases hl
theorem lok16 : LOK Try.prog SW1 (ro 16) L16 0 false c16 [] :=
  lok_lo L16_ok c16 [] false (locate_nil _) (by kernel_rfl)
noncomputable def t16 (hl : List (List AV)) (st lo hi u v : Int) : Tr ((Int)) :=
  .cn (i16a_0 hl st lo hi u v 0 hi 0) (.lf (bmax (v16a_0_t9 hl st lo hi u v 0 hi 0) lo)) (.nn)
noncomputable def g16 (hl : List (List AV)) (st lo hi u v : Int) : Bool := (t16 hl st lo hi u v).g
noncomputable def w16_0 (hl : List (List AV)) (st lo hi u v : Int) : Int := (t16 hl st lo hi u v).val
theorem eq16 (hl : List (List AV)) (st lo hi u v : Int) : evF Try.prog SW1 (ro 16) L16 Try.f16 [.rs 76 hl, .i .i64 st, .agg [.i .i64 lo, .i .i64 hi], .agg [.i .i64 u, .i .i64 v]] = (t16 hl st lo hi u v).opt (fun (x : (Int)) => (.i .i64 x : AV)) := by kernel_rfl
theorem con16 (hl : List (List AV)) (st lo hi u v : Int) (h : g16 hl st lo hi u v = true) : Con Try.prog 16 [.rs 76 hl, .i .i64 st, .agg [.i .i64 lo, .i .i64 hi], .agg [.i .i64 u, .i .i64 v]] [] (.i .i64 (w16_0 hl st lo hi u v)) [] :=
  con_of SW1_ok mixed Try.func16 (c := c16) rfl (names 16 _ Try.func16) lok16 ((eq16 hl st lo hi u v).trans (Tr.sound _ _ h))
noncomputable def e16 (args : List AV) (rows : List Blk) : Option (Bool × AV × List Blk) := match args, rows with
  | [.rs 76 hl, .i .i64 st, .agg [.i .i64 lo, .i .i64 hi], .agg [.i .i64 u, .i .i64 v]], [] => some (g16 hl st lo hi u v, .i .i64 (w16_0 hl st lo hi u v), [])
  | _, _ => none
theorem e16_ok (args : List AV) (rows : List Blk) (pre : Bool) (v : AV) (rows' : List Blk) (h : e16 args rows = some (pre, v, rows')) (hp : pre = true) : Con Try.prog 16 args rows v rows' := by
  unfold e16 at h
  split at h
  · cases h; exact con16 _ _ _ _ _ _ hp
  · cases h
-- SPEC 16
end Go.Proofs.Ytoglnllbopcejaa

set_option maxRecDepth 100000
set_option maxHeartbeats 0
set_option linter.unusedVariables false
namespace Go.Proofs.Ytoglnllbopcejaa
open Go Go.Ev

noncomputable def c14 : Code := match Try.f14.body with | some c => c | _ => .skip
noncomputable def lp14a : Code := loopAt c14 [true, false, true, false]
noncomputable def s14a (hl : List (List AV)) (t2 : Bool) (t3 : Int) : St :=
  { t := [(0, .rs 76 hl), (2, .b t2), (3, .i .i64 t3)], m := [], nx := 0, nt := 47 }
structure S14a where
  t3 : Int
inductive T14a where
  | x0 (t2' : Bool) (t3 : Int)
  | x1 (t3 : Int)
noncomputable def stp14a (hl : List (List AV)) (t2 : Bool) (t3 : Int) : Lp S14a T14a :=
  cond (decide (t3 < (↑hl.length : Int))) (cond (inb t3 hl.length) (cond (decide (fI (hl.getD t3.toNat []) 0 < -1000)) (.out (.x0 false t3)) (cond (inb t3 hl.length) (cond (decide (fI (hl.getD t3.toNat []) 0 > 1000)) (.out (.x0 false t3)) (cond (inb t3 hl.length) (cond (decide (fI (hl.getD t3.toNat []) 1 < -1000)) (.out (.x0 false t3)) (cond (inb t3 hl.length) (cond (decide (fI (hl.getD t3.toNat []) 1 > 1000)) (.out (.x0 false t3)) (.go ⟨IntKind.i64.wrap (t3 + 1)⟩)) (.bad))) (.bad))) (.bad))) (.bad)) (.out (.x1 t3))
noncomputable def o14a_0 (hl : List (List AV)) (t2 t2' : Bool) (t3 : Int) : St :=
  { t := [(0, .rs 76 hl), (2, .b t2'), (3, .i .i64 t3)], m := [], nx := 0, nt := 47 }
noncomputable def o14a_1 (hl : List (List AV)) (t2 : Bool) (t3 : Int) : St :=
  { t := [(0, .rs 76 hl), (2, .b t2), (3, .i .i64 t3)], m := [], nx := 0, nt := 47 }
noncomputable def ou14a (hl : List (List AV)) (t2 : Bool) : T14a → Ex × St
  | .x0 t2' t3 => (.ret, o14a_0 hl t2 t2' t3)
  | .x1 t3 => (.ext 0, o14a_1 hl t2 t3)
noncomputable def r14a (hl : List (List AV)) (t2 : Bool) (t3 : Int) : Option T14a := run (fun x => stp14a hl t2 x.t3) (⟨t3⟩ : S14a)
noncomputable def i14a_0 (hl : List (List AV)) (t2 : Bool) (t3 : Int) : Bool := match r14a hl t2 t3 with
  | some (.x0 _ _) => true
  | _ => false
noncomputable def v14a_0_t2' (hl : List (List AV)) (t2 : Bool) (t3 : Int) : Bool := match r14a hl t2 t3 with
  | some (.x0 t2' _) => t2'
  | _ => default
noncomputable def v14a_0_t3 (hl : List (List AV)) (t2 : Bool) (t3 : Int) : Int := match r14a hl t2 t3 with
  | some (.x0 _ t3) => t3
  | _ => default
noncomputable def i14a_1 (hl : List (List AV)) (t2 : Bool) (t3 : Int) : Bool := match r14a hl t2 t3 with
  | some (.x1 _) => true
  | _ => false
noncomputable def v14a_1_t3 (hl : List (List AV)) (t2 : Bool) (t3 : Int) : Int := match r14a hl t2 t3 with
  | some (.x1 t3) => t3
  | _ => default
noncomputable def q14a (hl : List (List AV)) (t2 : Bool) (t3 : Int) : List (Bool × Ex × St) := [(i14a_0 hl t2 t3, .ret, o14a_0 hl t2 (v14a_0_t2' hl t2 t3) (v14a_0_t3 hl t2 t3)), (i14a_1 hl t2 t3, .ext 0, o14a_1 hl t2 (v14a_1_t3 hl t2 t3))]
noncomputable def l14a (st : St) : Option (List (Bool × Ex × St)) := qget [.rs 76, .b, .i .i64] [] 0 47 (normW Try.prog [(0, none), (2, none), (3, none)] 0 st) fun ls => q14a (lLL ls 0) (lB ls 1) (lI ls 2)
noncomputable def L14 : LSpec := fun p st => match p with
  | [false, true, false, true] => l14a st
  | _ => none
theorem is14a_0 (hl : List (List AV)) (t2 : Bool) (t3 : Int) (h : i14a_0 hl t2 t3 = true) : r14a hl t2 t3 = some (.x0 (v14a_0_t2' hl t2 t3) (v14a_0_t3 hl t2 t3)) := by
  unfold i14a_0 at h
  unfold v14a_0_t2' v14a_0_t3
  generalize r14a hl t2 t3 = r at h ⊢
  rcases r with _ | y
  · cases h
  · cases y <;> first | rfl | cases h
theorem is14a_1 (hl : List (List AV)) (t2 : Bool) (t3 : Int) (h : i14a_1 hl t2 t3 = true) : r14a hl t2 t3 = some (.x1 (v14a_1_t3 hl t2 t3)) := by
  unfold i14a_1 at h
  unfold v14a_1_t3
  generalize r14a hl t2 t3 = r at h ⊢
  rcases r with _ | y
  · cases h
  · cases y <;> first | rfl | cases h
theorem round14a (hl : List (List AV)) (t2 : Bool) (t3 : Int) : round Try.prog SW1 (ro 14) L14 lp14a [false, true, false, true] [(0, none), (2, none), (3, none)] 0 (s14a hl t2 t3) =
    cond (decide (t3 < (↑hl.length : Int))) (cond (inb t3 hl.length) (cond (decide (fI (hl.getD t3.toNat []) 0 < -1000)) (some (.ret, o14a_0 hl t2 false t3)) (cond (inb t3 hl.length) (cond (decide (fI (hl.getD t3.toNat []) 0 > 1000)) (some (.ret, o14a_0 hl t2 false t3)) (cond (inb t3 hl.length) (cond (decide (fI (hl.getD t3.toNat []) 1 < -1000)) (some (.ret, o14a_0 hl t2 false t3)) (cond (inb t3 hl.length) (cond (decide (fI (hl.getD t3.toNat []) 1 > 1000)) (some (.ret, o14a_0 hl t2 false t3)) (some (.nrm, s14a hl t2 (IntKind.i64.wrap (t3 + 1))))) (none))) (none))) (none))) (none)) (some (.ext 0, o14a_1 hl t2 t3)) := by kernel_rfl
theorem rnd14a (hl : List (List AV)) (t2 : Bool) (x : S14a) : round Try.prog SW1 (ro 14) L14 lp14a [false, true, false, true] [(0, none), (2, none), (3, none)] 0 ((fun x => s14a hl t2 x.t3) x) = toR (fun x => s14a hl t2 x.t3) (ou14a hl t2) (stp14a hl t2 x.t3) := by
  refine (round14a _ _ _ ).trans ?_
  unfold stp14a
  simp only [toR_cond]
  rfl
theorem lokb14a (hl : List (List AV)) (t2 : Bool) (t3 : Int) {e : Ex} {s : St} (hch : Chosen (q14a hl t2 t3) e s) : LB Try.prog SW1 (ro 14) L14 lp14a [false, true, false, true] [(0, none), (2, none), (3, none)] 0 (s14a hl t2 t3) e s := by
  unfold q14a at hch
  have main := fun y h => LB_run (x := (⟨t3⟩ : S14a)) (y := y) (nb := 0) (fun y => by cases y <;> simp [ou14a]) (rnd14a hl t2) h
  obtain ⟨x, hx, hg, rfl, rfl⟩ := chosen_any hch
  simp only [List.mem_cons, List.not_mem_nil, or_false] at hx
  rcases hx with rfl | rfl
  · exact main _ (is14a_0 hl t2 t3 hg)
  · exact main _ (is14a_1 hl t2 t3 hg)
theorem lok14a {st : St} {outs : List (Bool × Ex × St)} {e : Ex} {s : St} (hl : l14a st = some outs) (hch : Chosen outs e s) :
    ∃ keep nb, 0 ≤ nb ∧ LB Try.prog SW1 (ro 14) L14 lp14a [false, true, false, true] keep nb st e s := by
  unfold l14a at hl
  obtain ⟨ls, hno, rfl⟩ := qget_some hl
  have hno := normW_norm hno
  refine ⟨_, _, ?_, .enterQ hno (s2 := s14a (lLL ls 0) (lB ls 1) (lI ls 2)) (by kernel_rfl) (lokb14a _ _ _ hch)⟩
  decide
theorem L14_ok (q : Pl) (c : Code) (hq : locate c14 q.reverse = some (.loop c)) (st : St) (outs : List (Bool × Ex × St)) (e : Ex) (s : St) (hl : L14 q st = some outs) (hch : Chosen outs e s) :
    ∃ keep nb, 0 ≤ nb ∧ LB Try.prog SW1 (ro 14) L14 c q keep nb st e s := by
  unfold L14 at hl
  split at hl
  · have : locate c14 ([false, true, false, true] : Pl).reverse = some (.loop lp14a) := by kernel_rfl
    rw [this] at hq
    cases hq
    exact lok14a hl hch
  · cases hl
theorem lok14 : LOK Try.prog SW1 (ro 14) L14 0 false c14 [] :=
  lok_lo L14_ok c14 [] false (locate_nil _) (by kernel_rfl)
noncomputable def t14 (hl : List (List AV)) : Tr ((Bool)) :=
  .cn (i14a_0 hl false 0) (.lf (v14a_0_t2' hl false 0)) (.cn (i14a_1 hl false 0) (.lf (decide ((↑hl.length : Int) ≤ 20))) (.nn))
noncomputable def g14 (hl : List (List AV)) : Bool := (t14 hl).g
noncomputable def w14_0 (hl : List (List AV)) : Bool := (t14 hl).val
theorem eq14 (hl : List (List AV)) : evF Try.prog SW1 (ro 14) L14 Try.f14 [.rs 76 hl] = (t14 hl).opt (fun (x : (Bool)) => (.b x : AV)) := by kernel_rfl
theorem con14 (hl : List (List AV)) (h : g14 hl = true) : Con Try.prog 14 [.rs 76 hl] [] (.b (w14_0 hl)) [] :=
  con_of SW1_ok mixed Try.func14 (c := c14) rfl (names 14 _ Try.func14) lok14 ((eq14 hl).trans (Tr.sound _ _ h))
noncomputable def e14 (args : List AV) (rows : List Blk) : Option (Bool × AV × List Blk) := match args, rows with
  | [.rs 76 hl], [] => some (g14 hl, .b (w14_0 hl), [])
  | _, _ => none
theorem e14_ok (args : List AV) (rows : List Blk) (pre : Bool) (v : AV) (rows' : List Blk) (h : e14 args rows = some (pre, v, rows')) (hp : pre = true) : Con Try.prog 14 args rows v rows' := by
  unfold e14 at h
  split at h
  · cases h; exact con14 _ hp
  · cases h
-- SPEC 14
end Go.Proofs.Ytoglnllbopcejaa

set_option maxRecDepth 100000
set_option linter.unusedVariables false
namespace Go.Proofs.Ytoglnllbopcejaa
open Go Go.Ev
noncomputable def SW2 : Ev.Spec := insS 14 e14 (insS 16 e16 (insS 11 e11 (insS 7 e7 (insS 53 e53 (insS 51 e51 (insS 54 e54 (insS 33 e33 (insS 59 (orE e59a e59b) (insS 58 e58 (insS 40 e40 (insS 48 e48 (SW1))))))))))))
theorem SW2_ok : SpecOK Try.prog SW2 := insS_ok e14_ok (insS_ok e16_ok (insS_ok e11_ok (insS_ok e7_ok (insS_ok e53_ok (insS_ok e51_ok (insS_ok e54_ok (insS_ok e33_ok (insS_ok (orE_ok e59a_ok e59b_ok) (insS_ok e58_ok (insS_ok e40_ok (insS_ok e48_ok (SW1_ok))))))))))))
end Go.Proofs.Ytoglnllbopcejaa

set_option maxRecDepth 100000
set_option maxHeartbeats 0
set_option linter.unusedVariables false
namespace Go.Proofs.Ytoglnllbopcejaa
open Go Go.Ev

noncomputable def c26 : Code := match Try.f26.body with | some c => c | _ => .skip
theorem lok26 : LOK Try.prog SW2 (ro 26) (fun _ _ => none) 0 false c26 [] :=
  lok_lo (fun _ _ _ _ _ _ _ h _ => by cases h) c26 [] false (locate_nil _) (by kernel_rfl)
noncomputable def t26 (au av bu bv : Int) : Tr ((Int)) :=
  .cn (g48 av bv) (.cn (g48 au bu) (.cn (g47 (w48_0 av bv) (w48_0 au bu)) (.lf (w47_0 (w48_0 av bv) (w48_0 au bu))) (.nn)) (.nn)) (.nn)
noncomputable def g26 (au av bu bv : Int) : Bool := (t26 au av bu bv).g
noncomputable def w26_0 (au av bu bv : Int) : Int := (t26 au av bu bv).val
theorem eq26 (au av bu bv : Int) : evF Try.prog SW2 (ro 26) (fun _ _ => none) Try.f26 [.agg [.i .i64 au, .i .i64 av], .agg [.i .i64 bu, .i .i64 bv]] = (t26 au av bu bv).opt (fun (x : (Int)) => (.i .i64 x : AV)) := by kernel_rfl
theorem con26 (au av bu bv : Int) (h : g26 au av bu bv = true) : Con Try.prog 26 [.agg [.i .i64 au, .i .i64 av], .agg [.i .i64 bu, .i .i64 bv]] [] (.i .i64 (w26_0 au av bu bv)) [] :=
  con_of SW2_ok mixed Try.func26 (c := c26) rfl (names 26 _ Try.func26) lok26 ((eq26 au av bu bv).trans (Tr.sound _ _ h))
noncomputable def e26 (args : List AV) (rows : List Blk) : Option (Bool × AV × List Blk) := match args, rows with
  | [.agg [.i .i64 au, .i .i64 av], .agg [.i .i64 bu, .i .i64 bv]], [] => some (g26 au av bu bv, .i .i64 (w26_0 au av bu bv), [])
  | _, _ => none
theorem e26_ok (args : List AV) (rows : List Blk) (pre : Bool) (v : AV) (rows' : List Blk) (h : e26 args rows = some (pre, v, rows')) (hp : pre = true) : Con Try.prog 26 args rows v rows' := by
  unfold e26 at h
  split at h
  · cases h; exact con26 _ _ _ _ hp
  · cases h
-- SPEC 26
end Go.Proofs.Ytoglnllbopcejaa

set_option maxRecDepth 100000
set_option maxHeartbeats 0
set_option linter.unusedVariables false
namespace Go.Proofs.Ytoglnllbopcejaa
open Go Go.Ev

noncomputable def c57 : Code := match Try.f57.body with | some c => c | _ => .skip
theorem lok57 : LOK Try.prog SW2 (ro 57) (fun _ _ => none) 0 false c57 [] :=
  lok_lo (fun _ _ _ _ _ _ _ h _ => by cases h) c57 [] false (locate_nil _) (by kernel_rfl)
noncomputable def t57 (u v : Int) : Tr ((Bool)) :=
  .cn (g40 u v) (.lf (!w40_0 u v)) (.nn)
noncomputable def g57 (u v : Int) : Bool := (t57 u v).g
noncomputable def w57_0 (u v : Int) : Bool := (t57 u v).val
theorem eq57 (u v : Int) : evF Try.prog SW2 (ro 57) (fun _ _ => none) Try.f57 [.agg [.i .i64 u, .i .i64 v]] = (t57 u v).opt (fun (x : (Bool)) => (.b x : AV)) := by kernel_rfl
theorem con57 (u v : Int) (h : g57 u v = true) : Con Try.prog 57 [.agg [.i .i64 u, .i .i64 v]] [] (.b (w57_0 u v)) [] :=
  con_of SW2_ok mixed Try.func57 (c := c57) rfl (names 57 _ Try.func57) lok57 ((eq57 u v).trans (Tr.sound _ _ h))
noncomputable def e57 (args : List AV) (rows : List Blk) : Option (Bool × AV × List Blk) := match args, rows with
  | [.agg [.i .i64 u, .i .i64 v]], [] => some (g57 u v, .b (w57_0 u v), [])
  | _, _ => none
theorem e57_ok (args : List AV) (rows : List Blk) (pre : Bool) (v : AV) (rows' : List Blk) (h : e57 args rows = some (pre, v, rows')) (hp : pre = true) : Con Try.prog 57 args rows v rows' := by
  unfold e57 at h
  split at h
  · cases h; exact con57 _ _ hp
  · cases h
-- SPEC 57
end Go.Proofs.Ytoglnllbopcejaa

set_option maxRecDepth 100000
set_option maxHeartbeats 0
set_option linter.unusedVariables false
namespace Go.Proofs.Ytoglnllbopcejaa
open Go Go.Ev

noncomputable def c35a : Code := match Try.f35.body with | some c => c | _ => .skip
theorem lok35a : LOK Try.prog SW2 (ro 35) (fun _ _ => none) 0 false c35a [] :=
  lok_lo (fun _ _ _ _ _ _ _ h _ => by cases h) c35a [] false (locate_nil _) (by kernel_rfl)
noncomputable def t35a (hs : List (List AV)) : Tr ((Bool)) :=
  .cn (g59a hs) (.lf (decide (w59a_0 hs ≥ 0))) (.nn)
noncomputable def g35a (hs : List (List AV)) : Bool := (t35a hs).g
noncomputable def w35a_0 (hs : List (List AV)) : Bool := (t35a hs).val
theorem eq35a (hs : List (List AV)) : evF Try.prog SW2 (ro 35) (fun _ _ => none) Try.f35 [.rs 55 hs, .fn 36 []] = (t35a hs).opt (fun (x : (Bool)) => (.b x : AV)) := by kernel_rfl
theorem con35a (hs : List (List AV)) (h : g35a hs = true) : Con Try.prog 35 [.rs 55 hs, .fn 36 []] [] (.b (w35a_0 hs)) [] :=
  con_of SW2_ok mixed Try.func35 (c := c35a) rfl (names 35 _ Try.func35) lok35a ((eq35a hs).trans (Tr.sound _ _ h))
noncomputable def e35a (args : List AV) (rows : List Blk) : Option (Bool × AV × List Blk) := match args, rows with
  | [.rs 55 hs, .fn 36 []], [] => some (g35a hs, .b (w35a_0 hs), [])
  | _, _ => none
theorem e35a_ok (args : List AV) (rows : List Blk) (pre : Bool) (v : AV) (rows' : List Blk) (h : e35a args rows = some (pre, v, rows')) (hp : pre = true) : Con Try.prog 35 args rows v rows' := by
  unfold e35a at h
  split at h
  · cases h; exact con35a _ hp
  · cases h
-- SPEC 35
end Go.Proofs.Ytoglnllbopcejaa

set_option maxRecDepth 100000
set_option maxHeartbeats 0
set_option linter.unusedVariables false
namespace Go.Proofs.Ytoglnllbopcejaa
open Go Go.Ev

noncomputable def c35b : Code := match Try.f35.body with | some c => c | _ => .skip
theorem lok35b : LOK Try.prog SW2 (ro 35) (fun _ _ => none) 0 false c35b [] :=
  lok_lo (fun _ _ _ _ _ _ _ h _ => by cases h) c35b [] false (locate_nil _) (by kernel_rfl)
noncomputable def t35b (hs : List (List AV)) (u v : Int) : Tr ((Bool)) :=
  .cn (g59b hs u v) (.lf (decide (w59b_0 hs u v ≥ 0))) (.nn)
noncomputable def g35b (hs : List (List AV)) (u v : Int) : Bool := (t35b hs u v).g
noncomputable def w35b_0 (hs : List (List AV)) (u v : Int) : Bool := (t35b hs u v).val
theorem eq35b (hs : List (List AV)) (u v : Int) : evF Try.prog SW2 (ro 35) (fun _ _ => none) Try.f35 [.rs 55 hs, .fn 43 [.rp [.int .i64, .int .i64] [.i .i64 u, .i .i64 v] 0]] = (t35b hs u v).opt (fun (x : (Bool)) => (.b x : AV)) := by kernel_rfl
theorem con35b (hs : List (List AV)) (u v : Int) (h : g35b hs u v = true) : Con Try.prog 35 [.rs 55 hs, .fn 43 [.rp [.int .i64, .int .i64] [.i .i64 u, .i .i64 v] 0]] [] (.b (w35b_0 hs u v)) [] :=
  con_of SW2_ok mixed Try.func35 (c := c35b) rfl (names 35 _ Try.func35) lok35b ((eq35b hs u v).trans (Tr.sound _ _ h))
noncomputable def e35b (args : List AV) (rows : List Blk) : Option (Bool × AV × List Blk) := match args, rows with
  | [.rs 55 hs, .fn 43 [.rp [.int .i64, .int .i64] [.i .i64 u, .i .i64 v] 0]], [] => some (g35b hs u v, .b (w35b_0 hs u v), [])
  | _, _ => none
theorem e35b_ok (args : List AV) (rows : List Blk) (pre : Bool) (v : AV) (rows' : List Blk) (h : e35b args rows = some (pre, v, rows')) (hp : pre = true) : Con Try.prog 35 args rows v rows' := by
  unfold e35b at h
  split at h
  · cases h; exact con35b _ _ _ hp
  · cases h
-- SPEC 35
end Go.Proofs.Ytoglnllbopcejaa

set_option maxRecDepth 100000
set_option maxHeartbeats 0
set_option linter.unusedVariables false
namespace Go.Proofs.Ytoglnllbopcejaa
open Go Go.Ev

noncomputable def c29 : Code := match Try.f29.body with | some c => c | _ => .skip
theorem lok29 : LOK Try.prog SW2 (ro 29) (fun _ _ => none) 0 false c29 [] :=
  lok_lo (fun _ _ _ _ _ _ _ h _ => by cases h) c29 [] false (locate_nil _) (by kernel_rfl)
noncomputable def t29 (os hs : List (List AV)) (u v : Int) : Tr ((Bool)) :=
  .cn (g30 u 0 400) (.cn (w30_0 u 0 400) (.cn (g30 v 0 400) (.cn (w30_0 v 0 400) (.cn (g54 os hs u v) (.lf (w54_0 os hs u v)) (.nn)) (.lf (false))) (.nn)) (.lf (false))) (.nn)
noncomputable def g29 (os hs : List (List AV)) (u v : Int) : Bool := (t29 os hs u v).g
noncomputable def w29_0 (os hs : List (List AV)) (u v : Int) : Bool := (t29 os hs u v).val
theorem eq29 (os hs : List (List AV)) (u v : Int) : evF Try.prog SW2 (ro 29) (fun _ _ => none) Try.f29 [.agg [.rs 32 os, .rs 55 hs], .agg [.i .i64 u, .i .i64 v]] = (t29 os hs u v).opt (fun (x : (Bool)) => (.b x : AV)) := by kernel_rfl
theorem con29 (os hs : List (List AV)) (u v : Int) (h : g29 os hs u v = true) : Con Try.prog 29 [.agg [.rs 32 os, .rs 55 hs], .agg [.i .i64 u, .i .i64 v]] [] (.b (w29_0 os hs u v)) [] :=
  con_of SW2_ok mixed Try.func29 (c := c29) rfl (names 29 _ Try.func29) lok29 ((eq29 os hs u v).trans (Tr.sound _ _ h))
noncomputable def e29 (args : List AV) (rows : List Blk) : Option (Bool × AV × List Blk) := match args, rows with
  | [.agg [.rs 32 os, .rs 55 hs], .agg [.i .i64 u, .i .i64 v]], [] => some (g29 os hs u v, .b (w29_0 os hs u v), [])
  | _, _ => none
theorem e29_ok (args : List AV) (rows : List Blk) (pre : Bool) (v : AV) (rows' : List Blk) (h : e29 args rows = some (pre, v, rows')) (hp : pre = true) : Con Try.prog 29 args rows v rows' := by
  unfold e29 at h
  split at h
  · cases h; exact con29 _ _ _ _ hp
  · cases h
-- SPEC 29
end Go.Proofs.Ytoglnllbopcejaa

set_option maxRecDepth 100000
set_option linter.unusedVariables false
namespace Go.Proofs.Ytoglnllbopcejaa
open Go Go.Ev
noncomputable def SW3 : Ev.Spec := insS 29 e29 (insS 35 (orE e35a e35b) (insS 26 e26 (insS 57 e57 (SW2))))
theorem SW3_ok : SpecOK Try.prog SW3 := insS_ok e29_ok (insS_ok (orE_ok e35a_ok e35b_ok) (insS_ok e26_ok (insS_ok e57_ok (SW2_ok))))
end Go.Proofs.Ytoglnllbopcejaa

set_option maxRecDepth 100000
set_option maxHeartbeats 0
set_option linter.unusedVariables false
namespace Go.Proofs.Ytoglnllbopcejaa
open Go Go.Ev

noncomputable def c25 : Code := match Try.f25.body with | some c => c | _ => .skip
theorem lok25 : LOK Try.prog SW3 (ro 25) (fun _ _ => none) 0 false c25 [] :=
  lok_lo (fun _ _ _ _ _ _ _ h _ => by cases h) c25 [] false (locate_nil _) (by kernel_rfl)
noncomputable def t25 (au av lo hi bu bv : Int) : Tr ((Int)) :=
  .cn (g26 au av bu bv) (.lf (w26_0 au av bu bv)) (.nn)
noncomputable def g25 (au av lo hi bu bv : Int) : Bool := (t25 au av lo hi bu bv).g
noncomputable def w25_0 (au av lo hi bu bv : Int) : Int := (t25 au av lo hi bu bv).val
theorem eq25 (au av lo hi bu bv : Int) : evF Try.prog SW3 (ro 25) (fun _ _ => none) Try.f25 [.agg [.i .i64 au, .i .i64 av, .i .i64 lo, .i .i64 hi], .agg [.i .i64 bu, .i .i64 bv]] = (t25 au av lo hi bu bv).opt (fun (x : (Int)) => (.i .i64 x : AV)) := by kernel_rfl
theorem con25 (au av lo hi bu bv : Int) (h : g25 au av lo hi bu bv = true) : Con Try.prog 25 [.agg [.i .i64 au, .i .i64 av, .i .i64 lo, .i .i64 hi], .agg [.i .i64 bu, .i .i64 bv]] [] (.i .i64 (w25_0 au av lo hi bu bv)) [] :=
  con_of SW3_ok mixed Try.func25 (c := c25) rfl (names 25 _ Try.func25) lok25 ((eq25 au av lo hi bu bv).trans (Tr.sound _ _ h))
noncomputable def e25 (args : List AV) (rows : List Blk) : Option (Bool × AV × List Blk) := match args, rows with
  | [.agg [.i .i64 au, .i .i64 av, .i .i64 lo, .i .i64 hi], .agg [.i .i64 bu, .i .i64 bv]], [] => some (g25 au av lo hi bu bv, .i .i64 (w25_0 au av lo hi bu bv), [])
  | _, _ => none
theorem e25_ok (args : List AV) (rows : List Blk) (pre : Bool) (v : AV) (rows' : List Blk) (h : e25 args rows = some (pre, v, rows')) (hp : pre = true) : Con Try.prog 25 args rows v rows' := by
  unfold e25 at h
  split at h
  · cases h; exact con25 _ _ _ _ _ _ hp
  · cases h
-- SPEC 25
end Go.Proofs.Ytoglnllbopcejaa

set_option maxRecDepth 100000
set_option maxHeartbeats 0
set_option linter.unusedVariables false
namespace Go.Proofs.Ytoglnllbopcejaa
open Go Go.Ev

noncomputable def c65 : Code := match Try.f65.body with | some c => c | _ => .skip
noncomputable def lp65a : Code := loopAt c65 [true, false, true, false]
noncomputable def s65a (os : List (List AV)) (t4 t7 t8 : Int) : St :=
  { t := [(0, .rs 32 os), (1, .fn 57 []), (4, .i .i64 t4), (7, .i .i64 t7), (8, .i .i64 t8)], m := [], nx := 0, nt := 19 }
structure S65a where
  t8 : Int
inductive T65a where
  | x0 (t4' : Int) (t8 : Int)
  | x1 (t8 : Int)
noncomputable def stp65a (os : List (List AV)) (t4 t7 t8 : Int) : Lp S65a T65a :=
  cond (decide (t8 < t7)) (cond (inb t8 os.length) (cond (g57 (fI (os.getD t8.toNat []) 0) (fI (os.getD t8.toNat []) 1)) (cond (w57_0 (fI (os.getD t8.toNat []) 0) (fI (os.getD t8.toNat []) 1)) (.out (.x0 t8 t8)) (.go ⟨IntKind.i64.wrap (t8 + 1)⟩)) (.bad)) (.bad)) (.out (.x1 t8))
noncomputable def o65a_0 (os : List (List AV)) (t4 t7 t4' t8 : Int) : St :=
  { t := [(0, .rs 32 os), (1, .fn 57 []), (4, .i .i64 t4'), (7, .i .i64 t7), (8, .i .i64 t8)], m := [], nx := 0, nt := 19 }
noncomputable def o65a_1 (os : List (List AV)) (t4 t7 t8 : Int) : St :=
  { t := [(0, .rs 32 os), (1, .fn 57 []), (4, .i .i64 t4), (7, .i .i64 t7), (8, .i .i64 t8)], m := [], nx := 0, nt := 19 }
noncomputable def ou65a (os : List (List AV)) (t4 t7 : Int) : T65a → Ex × St
  | .x0 t4' t8 => (.ret, o65a_0 os t4 t7 t4' t8)
  | .x1 t8 => (.ext 0, o65a_1 os t4 t7 t8)
noncomputable def r65a (os : List (List AV)) (t4 t7 t8 : Int) : Option T65a := run (fun x => stp65a os t4 t7 x.t8) (⟨t8⟩ : S65a)
noncomputable def i65a_0 (os : List (List AV)) (t4 t7 t8 : Int) : Bool := match r65a os t4 t7 t8 with
  | some (.x0 _ _) => true
  | _ => false
noncomputable def v65a_0_t4' (os : List (List AV)) (t4 t7 t8 : Int) : Int := match r65a os t4 t7 t8 with
  | some (.x0 t4' _) => t4'
  | _ => default
noncomputable def v65a_0_t8 (os : List (List AV)) (t4 t7 t8 : Int) : Int := match r65a os t4 t7 t8 with
  | some (.x0 _ t8) => t8
  | _ => default
noncomputable def i65a_1 (os : List (List AV)) (t4 t7 t8 : Int) : Bool := match r65a os t4 t7 t8 with
  | some (.x1 _) => true
  | _ => false
noncomputable def v65a_1_t8 (os : List (List AV)) (t4 t7 t8 : Int) : Int := match r65a os t4 t7 t8 with
  | some (.x1 t8) => t8
  | _ => default
noncomputable def q65a (os : List (List AV)) (t4 t7 t8 : Int) : List (Bool × Ex × St) := [(i65a_0 os t4 t7 t8, .ret, o65a_0 os t4 t7 (v65a_0_t4' os t4 t7 t8) (v65a_0_t8 os t4 t7 t8)), (i65a_1 os t4 t7 t8, .ext 0, o65a_1 os t4 t7 (v65a_1_t8 os t4 t7 t8))]
noncomputable def l65a (st : St) : Option (List (Bool × Ex × St)) := qget [.rs 32, .fn 57 [], .i .i64, .i .i64, .i .i64] [] 0 19 (normW Try.prog [(0, none), (1, none), (4, none), (7, none), (8, none)] 0 st) fun ls => q65a (lLL ls 0) (lI ls 1) (lI ls 2) (lI ls 3)
noncomputable def L65 : LSpec := fun p st => match p with
  | [false, true, false, true] => l65a st
  | _ => none
theorem is65a_0 (os : List (List AV)) (t4 t7 t8 : Int) (h : i65a_0 os t4 t7 t8 = true) : r65a os t4 t7 t8 = some (.x0 (v65a_0_t4' os t4 t7 t8) (v65a_0_t8 os t4 t7 t8)) := by
  unfold i65a_0 at h
  unfold v65a_0_t4' v65a_0_t8
  generalize r65a os t4 t7 t8 = r at h ⊢
  rcases r with _ | y
  · cases h
  · cases y <;> first | rfl | cases h
theorem is65a_1 (os : List (List AV)) (t4 t7 t8 : Int) (h : i65a_1 os t4 t7 t8 = true) : r65a os t4 t7 t8 = some (.x1 (v65a_1_t8 os t4 t7 t8)) := by
  unfold i65a_1 at h
  unfold v65a_1_t8
  generalize r65a os t4 t7 t8 = r at h ⊢
  rcases r with _ | y
  · cases h
  · cases y <;> first | rfl | cases h
theorem round65a (os : List (List AV)) (t4 t7 t8 : Int) : round Try.prog SW3 (ro 65) L65 lp65a [false, true, false, true] [(0, none), (1, none), (4, none), (7, none), (8, none)] 0 (s65a os t4 t7 t8) =
    cond (decide (t8 < t7)) (cond (inb t8 os.length) (cond (g57 (fI (os.getD t8.toNat []) 0) (fI (os.getD t8.toNat []) 1)) (cond (w57_0 (fI (os.getD t8.toNat []) 0) (fI (os.getD t8.toNat []) 1)) (some (.ret, o65a_0 os t4 t7 t8 t8)) (some (.nrm, s65a os t4 t7 (IntKind.i64.wrap (t8 + 1))))) (none)) (none)) (some (.ext 0, o65a_1 os t4 t7 t8)) := by kernel_rfl
theorem rnd65a (os : List (List AV)) (t4 t7 : Int) (x : S65a) : round Try.prog SW3 (ro 65) L65 lp65a [false, true, false, true] [(0, none), (1, none), (4, none), (7, none), (8, none)] 0 ((fun x => s65a os t4 t7 x.t8) x) = toR (fun x => s65a os t4 t7 x.t8) (ou65a os t4 t7) (stp65a os t4 t7 x.t8) := by
  refine (round65a _ _ _ _ ).trans ?_
  unfold stp65a
  simp only [toR_cond]
  rfl
theorem lokb65a (os : List (List AV)) (t4 t7 t8 : Int) {e : Ex} {s : St} (hch : Chosen (q65a os t4 t7 t8) e s) : LB Try.prog SW3 (ro 65) L65 lp65a [false, true, false, true] [(0, none), (1, none), (4, none), (7, none), (8, none)] 0 (s65a os t4 t7 t8) e s := by
  unfold q65a at hch
  have main := fun y h => LB_run (x := (⟨t8⟩ : S65a)) (y := y) (nb := 0) (fun y => by cases y <;> simp [ou65a]) (rnd65a os t4 t7) h
  obtain ⟨x, hx, hg, rfl, rfl⟩ := chosen_any hch
  simp only [List.mem_cons, List.not_mem_nil, or_false] at hx
  rcases hx with rfl | rfl
  · exact main _ (is65a_0 os t4 t7 t8 hg)
  · exact main _ (is65a_1 os t4 t7 t8 hg)
theorem lok65a {st : St} {outs : List (Bool × Ex × St)} {e : Ex} {s : St} (hl : l65a st = some outs) (hch : Chosen outs e s) :
    ∃ keep nb, 0 ≤ nb ∧ LB Try.prog SW3 (ro 65) L65 lp65a [false, true, false, true] keep nb st e s := by
  unfold l65a at hl
  obtain ⟨ls, hno, rfl⟩ := qget_some hl
  have hno := normW_norm hno
  refine ⟨_, _, ?_, .enterQ hno (s2 := s65a (lLL ls 0) (lI ls 1) (lI ls 2) (lI ls 3)) (by kernel_rfl) (lokb65a _ _ _ _ hch)⟩
  decide
theorem L65_ok (q : Pl) (c : Code) (hq : locate c65 q.reverse = some (.loop c)) (st : St) (outs : List (Bool × Ex × St)) (e : Ex) (s : St) (hl : L65 q st = some outs) (hch : Chosen outs e s) :
    ∃ keep nb, 0 ≤ nb ∧ LB Try.prog SW3 (ro 65) L65 c q keep nb st e s := by
  unfold L65 at hl
  split at hl
  · have : locate c65 ([false, true, false, true] : Pl).reverse = some (.loop lp65a) := by kernel_rfl
    rw [this] at hq
    cases hq
    exact lok65a hl hch
  · cases hl
theorem lok65 : LOK Try.prog SW3 (ro 65) L65 0 false c65 [] :=
  lok_lo L65_ok c65 [] false (locate_nil _) (by kernel_rfl)
noncomputable def t65 (os : List (List AV)) : Tr ((Int)) :=
  .cn (i65a_0 os 0 (↑os.length : Int) 0) (.lf (v65a_0_t4' os 0 (↑os.length : Int) 0)) (.cn (i65a_1 os 0 (↑os.length : Int) 0) (.lf (-1)) (.nn))
noncomputable def g65 (os : List (List AV)) : Bool := (t65 os).g
noncomputable def w65_0 (os : List (List AV)) : Int := (t65 os).val
theorem eq65 (os : List (List AV)) : evF Try.prog SW3 (ro 65) L65 Try.f65 [.rs 32 os, .fn 57 []] = (t65 os).opt (fun (x : (Int)) => (.i .i64 x : AV)) := by kernel_rfl
theorem con65 (os : List (List AV)) (h : g65 os = true) : Con Try.prog 65 [.rs 32 os, .fn 57 []] [] (.i .i64 (w65_0 os)) [] :=
  con_of SW3_ok mixed Try.func65 (c := c65) rfl (names 65 _ Try.func65) lok65 ((eq65 os).trans (Tr.sound _ _ h))
noncomputable def e65 (args : List AV) (rows : List Blk) : Option (Bool × AV × List Blk) := match args, rows with
  | [.rs 32 os, .fn 57 []], [] => some (g65 os, .i .i64 (w65_0 os), [])
  | _, _ => none
theorem e65_ok (args : List AV) (rows : List Blk) (pre : Bool) (v : AV) (rows' : List Blk) (h : e65 args rows = some (pre, v, rows')) (hp : pre = true) : Con Try.prog 65 args rows v rows' := by
  unfold e65 at h
  split at h
  · cases h; exact con65 _ hp
  · cases h
-- SPEC 65
end Go.Proofs.Ytoglnllbopcejaa

set_option maxRecDepth 100000
set_option linter.unusedVariables false
namespace Go.Proofs.Ytoglnllbopcejaa
open Go Go.Ev
noncomputable def sI (es : List (List AV)) (l i : Nat) : St := { t := [(0, .yl l), (1, .rp [.sl 32] [.rs 32 es] 0), (5, .rs 32 es), (6, .i .i64 es.length), (7, .i .i64 i)], m := [], nx := 0, nt := 26 }
def encS (x : List AV) : List AV := [.agg [.i .i64 (fI x 0), .i .i64 (fI x 1), .i .i64 (fI x 2), .i .i64 (fI x 3)]]
def sideX (es : List (List AV)) (i j : Nat) : List AV := [.i .i64 (fI (es.getD i []) 0), .i .i64 (fI (es.getD i []) 1), .i .i64 (fI (es.getD j []) 0), .i .i64 (fI (es.getD j []) 1)]
def sidesX (es : List (List AV)) : List (List AV) := (List.range es.length).map fun i => sideX es i ((i + 1) % es.length)
def okS (es : List (List AV)) : Bool := Nat.ble es.length 9223372036854775806 && (sidesX es).all fun x => plainL (encS x)
theorem encS_len {l : List (List AV)} {x : List AV} (h : x ∈ l.map encS) : x.length = 1 := by
  obtain ⟨y, _, rfl⟩ := List.mem_map.1 h
  rfl
noncomputable def sr1 : Code := match Try.f60.body with | some (.seq _ (.block 0 (.loop (.seq a _)))) => a | _ => .skip
noncomputable def sr2 : Code := match Try.f60.body with | some (.seq _ (.block 0 (.loop (.seq _ (.seq _ (.seq (.block 1 (.seq a _)) _)))))) => a | _ => .skip
noncomputable def sr4 : Code := match Try.f60.body with | some (.seq _ (.block 0 (.loop (.seq _ (.seq _ (.seq _ a)))))) => a | _ => .skip
noncomputable def sops : Array Oper := match Try.f60.body with | some (.seq _ (.block 0 (.loop (.seq _ (.seq _ (.seq (.block 1 (.seq _ (.seq (.region _ o _) _))) _)))))) => o | _ => #[]
noncomputable def sr0 : Code := match Try.f60.body with | some (.seq a _) => a | _ => .skip
abbrev sK : List (Nat × Option TypeId) := [(0, none), (1, none), (5, none), (6, none), (7, none)]
theorem sides_eq (es : List (List AV)) (l i : Nat) : sliceT Try.prog S0 (ro 60) (fun _ _ => none) sr1 sr2 8 sops 11 12 [22] sK (sI es l i) =
    cond (decide ((i : Int) < (es.length : Int))) (cond (inb i es.length) (cond (decide ((es.length : Int) = 0)) none (cond (inb ((IntKind.i64.wrap ((i : Int) + 1)).tmod es.length) es.length)
      (some (some (.yl l, encS (sideX es i ((IntKind.i64.wrap ((i : Int) + 1)).tmod es.length).toNat), sI es l i))) none)) none) (some none) := by kernel_rfl
theorem sides_eq4 (es : List (List AV)) (l i : Nat) : afterR Try.prog S0 (ro 60) (fun _ _ => none) sr4 sK (sI es l i) =
    some { t := [(0, .yl l), (1, .rp [.sl 32] [.rs 32 es] 0), (5, .rs 32 es), (6, .i .i64 es.length), (7, .i .i64 (IntKind.i64.wrap ((i : Int) + 1)))], m := [], nx := 0, nt := 26 } := by kernel_rfl
theorem sides_eq0 (es : List (List AV)) (l : Nat) : afterR Try.prog S0 (ro 60) (fun _ _ => none) sr0 sK (initSt 26 [.yl l, .rp [.sl 32] [.rs 32 es] 0] []) = some (sI es l 0) := by kernel_rfl
theorem wrap_ids {x : Int} (h0 : -9223372036854775808 ≤ x) (h1 : x ≤ 9223372036854775807) : IntKind.i64.wrap x = x := by
  simp only [IntKind.wrap, IntKind.signed, IntKind.bits]
  simp
  omega
theorem cut_of {ops : Array Oper} {c m : Nat} (hs : ops.size = c + m) (h : (List.range' c m).all (fun j => Nat.beq ((befs ops).getD j 0) (2 ^ j - 1)) = true) : ∀ j o, ops[j]? = some o → c ≤ j → ∀ i, i < j → bef ops j i := by
  intro j o ho hj i hi
  have hlt := (Array.getElem?_eq_some_iff.1 ho).1
  have := Nat.eq_of_beq_eq_true (List.all_eq_true.1 h j (List.mem_range'_1.2 ⟨hj, by omega⟩))
  unfold bef
  rw [this, Nat.testBit_two_pow_sub_one]
  simpa using hi
theorem sidesX_len (es : List (List AV)) : (sidesX es).length = es.length := by simp [sidesX]
theorem sidesX_at {es : List (List AV)} {i : Nat} (hi : i < es.length) : (sidesX es).getD i [] = sideX es i ((i + 1) % es.length) := by simp [sidesX, List.getD_eq_getElem?_getD, hi]
theorem sides_con {es : List (List AV)} (h : okS es = true) : SeqCon Try.prog 60 [.rp [.sl 32] [.rs 32 es] 0] ((sidesX es).map encS) := by
  obtain ⟨hl, hp⟩ := Bool.and_eq_true_iff.1 h
  have hl := Nat.le_of_ble_eq_true hl
  have hxl : ((sidesX es).map encS).length = es.length := by rw [List.length_map, sidesX_len]
  refine iter_slice (S := S0) (RO := ro 60) (L := fun _ _ => none) S0_ok mixed (fn := Try.f60) (r0 := sr0) (r1 := sr1) (r2 := sr2) (r4 := sr4) (t8 := 8) (z := 24) (yd := 23) (yv := 12) (xvs := [22]) (c := 11) (ops := sops) (keep := sK) (stI := sI es)
    Try.func60 (names 60 _ Try.func60) rfl rfl (fun lo p => ⟨trivial, trivial, trivial, trivial⟩) (by kernel_rfl) rfl (cut_of (m := 2) rfl (by kernel_rfl)) rfl rfl rfl rfl rfl rfl rfl rfl rfl rfl ⟨by decide, by decide⟩ (fun x hx => ?_) (show 2 ≤ 26 by decide)
    (fun l => sides_eq0 es l) (fun l i hi => ?_) (fun l => ?_) (fun l i hi => ?_) (fun l i => ⟨rfl, rfl, rfl, rfl, rfl⟩)
  · obtain ⟨y, hy, rfl⟩ := List.mem_map.1 hx
    exact ⟨List.all_eq_true.1 hp y hy, rfl⟩
  · rw [hxl] at hi
    have h1 : (i : Int) < (es.length : Int) := by omega
    have hw : IntKind.i64.wrap ((i : Int) + 1) = (i : Int) + 1 := wrap_ids (by omega) (by omega)
    have ht : (((i : Int) + 1).tmod (es.length : Int)) = (((i + 1) % es.length : Nat) : Int) := by
      rw [show ((i : Int) + 1) = ((i + 1 : Nat) : Int) by omega, ← Int.ofNat_tmod]
    have hm := Nat.mod_lt (i + 1) (show 0 < es.length by omega)
    have hg : ((sidesX es).map encS).getD i [] = encS (sideX es i ((i + 1) % es.length)) := by
      rw [← sidesX_at hi]
      simp [List.getD_eq_getElem?_getD, sidesX_len, hi]
    rw [sides_eq, hw, ht, hg]
    generalize (i + 1) % es.length = q at hm
    have e1 : inb (i : Int) es.length = true := by simp [inb, hi]
    have e2 : inb (q : Int) es.length = true := by simp [inb, hm]
    have e3 : decide ((es.length : Int) = 0) = false := decide_eq_false (by omega)
    simp only [h1, decide_true, cond_true, e1, e2, e3, cond_false, Int.toNat_natCast]
  · rw [hxl, sides_eq]
    have h1 : ¬ ((es.length : Int) < (es.length : Int)) := by omega
    simp only [h1, decide_false, cond_false]
  · rw [hxl] at hi
    have hw : IntKind.i64.wrap ((i : Int) + 1) = (i : Int) + 1 := wrap_ids (by omega) (by omega)
    rw [sides_eq4, hw]
    rfl
end Go.Proofs.Ytoglnllbopcejaa

set_option maxRecDepth 100000
set_option maxHeartbeats 0
set_option linter.unusedVariables false
namespace Go.Proofs.Ytoglnllbopcejaa
open Go Go.Ev

noncomputable def c21 : Code := match Try.f21.body with | some c => c | _ => .skip
noncomputable def as21a : Code := rangeA c21 [true, true, false, true, false]
noncomputable def bd21a : Code := rangeB c21 [true, true, false, true, false]
noncomputable def s21a (os hs : List (List AV)) (u v : Int) (t11 : List (List AV)) (m2 : Bool) : St :=
  { t := [(2, .rp [.sl 32, .sl 55] [.rs 32 os, .rs 55 hs] 0), (3, .rp [.int .i64, .int .i64] [.i .i64 u, .i .i64 v] 0), (4, .p 2 0 0), (11, .fn 60 [.rp [.sl 32] [.rs 32 t11] 0])], m := [(0, .dead), (1, .dead), (2, .row 4 [[.b m2]]), (3, .dead), (4, .dead), (5, .dead), (6, .dead), (7, .dead), (8, .dead)], nx := 9, nt := 22 }
structure S21a where
inductive T21a where
  | x0 (m2' : Bool)
noncomputable def stp21a (os hs : List (List AV)) (u v : Int) (t11 : List (List AV)) (m2 : Bool) (it : List AV) : Lp S21a T21a :=
  cond (decide (w42_0 (fI it 0) (fI it 1) (fI it 2) (fI it 3) u v < 0)) (.out (.x0 false)) (.go ⟨⟩)
noncomputable def o21a_0 (os hs : List (List AV)) (u v : Int) (t11 : List (List AV)) (m2 m2' : Bool) : St :=
  { t := [(2, .rp [.sl 32, .sl 55] [.rs 32 os, .rs 55 hs] 0), (3, .rp [.int .i64, .int .i64] [.i .i64 u, .i .i64 v] 0), (4, .p 2 0 0), (11, .fn 60 [.rp [.sl 32] [.rs 32 t11] 0])], m := [(0, .dead), (1, .dead), (2, .row 4 [[.b m2']]), (3, .dead), (4, .dead), (5, .dead), (6, .dead), (7, .dead), (8, .dead)], nx := 9, nt := 22 }
noncomputable def ou21a (os hs : List (List AV)) (u v : Int) (t11 : List (List AV)) (m2 : Bool) : T21a → Ex × St
  | .x0 m2' => (.ret, o21a_0 os hs u v t11 m2 m2')
noncomputable def r21a (os hs : List (List AV)) (u v : Int) (t11 : List (List AV)) (m2 : Bool) (es : List (List AV)) : Option (Sum S21a T21a) := iterR (fun x it => stp21a os hs u v t11 m2 it) (sidesX es) (⟨⟩ : S21a)
noncomputable def i21a_0 (os hs : List (List AV)) (u v : Int) (t11 : List (List AV)) (m2 : Bool) (es : List (List AV)) : Bool := match r21a os hs u v t11 m2 es with
  | some (.inl ⟨⟩) => true
  | _ => false
noncomputable def i21a_1 (os hs : List (List AV)) (u v : Int) (t11 : List (List AV)) (m2 : Bool) (es : List (List AV)) : Bool := match r21a os hs u v t11 m2 es with
  | some (.inr (.x0 _)) => true
  | _ => false
noncomputable def v21a_1_m2' (os hs : List (List AV)) (u v : Int) (t11 : List (List AV)) (m2 : Bool) (es : List (List AV)) : Bool := match r21a os hs u v t11 m2 es with
  | some (.inr (.x0 m2')) => m2'
  | _ => default
noncomputable def l21a (st : St) : Option (List (Bool × Ex × St)) := match normV Try.prog [(2, none), (3, none), (4, none), (11, none)] 9 st, gt st.t 11 with
  | some ([.rp [.sl 32, .sl 55] [.rs 32 os, .rs 55 hs] 0, .rp [.int .i64, .int .i64] [.i .i64 u, .i .i64 v] 0, .p 2 0 0, .fn 60 [.rp [.sl 32] [.rs 32 t11] 0]], [(0, .dead), (1, .dead), (2, .row 4 [[.b m2]]), (3, .dead), (4, .dead), (5, .dead), (6, .dead), (7, .dead), (8, .dead)], 9, 22), .fn 60 [.rp [.sl 32] [.rs 32 es] 0] => some [(okS es && i21a_0 os hs u v t11 m2 es, .nrm, s21a os hs u v t11 m2), (okS es && i21a_1 os hs u v t11 m2 es, .ret, o21a_0 os hs u v t11 m2 (v21a_1_m2' os hs u v t11 m2 es))]
  | _, _ => none
noncomputable def L21 : LSpec := fun p st => match p with
  | [false, true, false, true, true] => l21a st
  | _ => none
theorem is21a_0 (os hs : List (List AV)) (u v : Int) (t11 : List (List AV)) (m2 : Bool) (es : List (List AV)) (h : i21a_0 os hs u v t11 m2 es = true) : r21a os hs u v t11 m2 es = some (.inl ⟨⟩) := by
  unfold i21a_0 at h
  generalize r21a os hs u v t11 m2 es = r at h ⊢
  rcases r with _ | y
  · cases h
  · rcases y with y | y <;> first | rfl | (cases h; done) | (cases y <;> first | rfl | cases h)
theorem is21a_1 (os hs : List (List AV)) (u v : Int) (t11 : List (List AV)) (m2 : Bool) (es : List (List AV)) (h : i21a_1 os hs u v t11 m2 es = true) : r21a os hs u v t11 m2 es = some (.inr (.x0 (v21a_1_m2' os hs u v t11 m2 es))) := by
  unfold i21a_1 at h
  unfold v21a_1_m2'
  generalize r21a os hs u v t11 m2 es = r at h ⊢
  rcases r with _ | y
  · cases h
  · rcases y with y | y <;> first | rfl | (cases h; done) | (cases y <;> first | rfl | cases h)
theorem round21a (os hs : List (List AV)) (u v : Int) (t11 : List (List AV)) (m2 : Bool) (it : List AV) : roundF Try.prog SW3 (ro 21) L21 [12] as21a bd21a [false, true, false, true, true] 9 (s21a os hs u v t11 m2) (encS it) =
    cond (decide (w42_0 (fI it 0) (fI it 1) (fI it 2) (fI it 3) u v < 0)) (some (.ret, o21a_0 os hs u v t11 m2 false)) (some (.nrm, s21a os hs u v t11 m2)) := by kernel_rfl
theorem rnd21a (os hs : List (List AV)) (u v : Int) (t11 : List (List AV)) (m2 : Bool) (x : S21a) (it : List AV) : roundF Try.prog SW3 (ro 21) L21 [12] as21a bd21a [false, true, false, true, true] 9 ((fun x => s21a os hs u v t11 m2) x) (encS it) = toR (fun x => s21a os hs u v t11 m2) (ou21a os hs u v t11 m2) (stp21a os hs u v t11 m2 it) := by
  refine (round21a _ _ _ _ _ _ _ ).trans ?_
  unfold stp21a
  simp only [toR_cond]
  rfl
theorem lok21a {st : St} {outs : List (Bool × Ex × St)} {e : Ex} {s : St} {lo : Nat} (hlo : lo ≤ st.nx) (hl : l21a st = some outs) (hch : Chosen outs e s) :
    ∃ keep nb, lo ≤ nb ∧ RB Try.prog SW3 (ro 21) L21 (.tmp 11) [12] as21a bd21a [false, true, false, true, true] keep nb st e s := by
  unfold l21a at hl
  split at hl
  · rename_i os hs u v t11 m2 es hno hgf
    cases hl
    obtain ⟨hnx, hno⟩ := normV_norm hno
    obtain ⟨x, hx, hg, rfl, rfl⟩ := chosen_any hch
    simp only [List.mem_cons, List.not_mem_nil, or_false] at hx
    have hgg : okS es = true := by
      rcases hx with rfl | rfl
      all_goals exact (Bool.and_eq_true_iff.1 hg).1
    have main := fun y h => rounds_iter (x := (⟨⟩ : S21a)) (y := y) (nb := 9) (fun y => by cases y <;> simp [ou21a]) (rnd21a os hs u v t11 m2) (xs := sidesX es) h
    refine ⟨_, _, hnx ▸ hlo, _, _, (sidesX es).map encS, _, hgf, by kernel_rfl, sides_con hgg, fun x hx => encS_len hx, fun q hq => ?_, hno, rfl, ?_⟩
    · have hn := norm_nt hno
      simp only [List.mem_cons, List.not_mem_nil, or_false] at hq
      subst hq
      rw [← hn]
      exact Nat.le_of_ble_eq_true rfl
    rw [show liveOnly Try.prog { t := (([(2, none), (3, none), (4, none), (11, none)] : List (Nat × Option TypeId)).map Prod.fst).zip [.rp [.sl 32, .sl 55] [.rs 32 os, .rs 55 hs] 0, .rp [.int .i64, .int .i64] [.i .i64 u, .i .i64 v] 0, .p 2 0 0, .fn 60 [.rp [.sl 32] [.rs 32 t11] 0]], m := [(0, .dead), (1, .dead), (2, .row 4 [[.b m2]]), (3, .dead), (4, .dead), (5, .dead), (6, .dead), (7, .dead), (8, .dead)], nx := 9, nt := 22 } = s21a os hs u v t11 m2 from by kernel_rfl]
    rcases hx with rfl | rfl
    · exact main _ (is21a_0 os hs u v t11 m2 es (Bool.and_eq_true_iff.1 hg).2)
    · exact main _ (is21a_1 os hs u v t11 m2 es (Bool.and_eq_true_iff.1 hg).2)
  · cases hl
theorem L21_ok (q : Pl) (c : Code) (hq : locate c21 q.reverse = some (.loop c)) (lo : Nat) (st : St) (outs : List (Bool × Ex × St)) (e : Ex) (s : St) (hlo : lo ≤ st.nx) (hl : L21 q st = some outs) (hch : Chosen outs e s) :
    ∃ keep nb, lo ≤ nb ∧ LB Try.prog SW3 (ro 21) L21 c q keep nb st e s := by
  unfold L21 at hl
  split at hl
  · have : locate c21 ([false, true, false, true, true] : Pl).reverse = some (.rangeFunc (.tmp 11) #[12] as21a bd21a) := by kernel_rfl
    rw [this] at hq
    cases hq
  · cases hl
theorem L21_okR (q : Pl) (g : Operand) (ps : Array Nat) (a b : Code) (hq : locate c21 q.reverse = some (.rangeFunc g ps a b)) (lo : Nat) (st : St) (outs : List (Bool × Ex × St)) (e : Ex) (s : St) (hlo : lo ≤ st.nx) (hl : L21 q st = some outs) (hch : Chosen outs e s) :
    ∃ keep nb, lo ≤ nb ∧ RB Try.prog SW3 (ro 21) L21 g ps.toList a b q keep nb st e s := by
  unfold L21 at hl
  split at hl
  · have : locate c21 ([false, true, false, true, true] : Pl).reverse = some (.rangeFunc (.tmp 11) #[12] as21a bd21a) := by kernel_rfl
    rw [this] at hq
    cases hq
    exact lok21a hlo hl hch
  · cases hl
theorem lok21 : LOK Try.prog SW3 (ro 21) L21 0 false c21 [] :=
  lok_gen L21_ok L21_okR c21 [] 0 false (locate_nil _) (by kernel_rfl)
noncomputable def t21 (os hs : List (List AV)) (u v : Int) : Tr ((Bool)) :=
  .cn (g40 u v) (.cn (!w40_0 u v) (.lf (false)) (.cn (okS (w41_0 os) && i21a_0 os hs u v (w41_0 os) false (w41_0 os)) (.cn (g35b hs u v) (.lf (!w35b_0 hs u v)) (.nn)) (.cn (okS (w41_0 os) && i21a_1 os hs u v (w41_0 os) false (w41_0 os)) (.lf (v21a_1_m2' os hs u v (w41_0 os) false (w41_0 os))) (.nn)))) (.nn)
noncomputable def g21 (os hs : List (List AV)) (u v : Int) : Bool := (t21 os hs u v).g
noncomputable def w21_0 (os hs : List (List AV)) (u v : Int) : Bool := (t21 os hs u v).val
theorem eq21 (os hs : List (List AV)) (u v : Int) : evF Try.prog SW3 (ro 21) L21 Try.f21 [.agg [.rs 32 os, .rs 55 hs], .agg [.i .i64 u, .i .i64 v]] = (t21 os hs u v).opt (fun (x : (Bool)) => (.b x : AV)) := by kernel_rfl
theorem con21 (os hs : List (List AV)) (u v : Int) (h : g21 os hs u v = true) : Con Try.prog 21 [.agg [.rs 32 os, .rs 55 hs], .agg [.i .i64 u, .i .i64 v]] [] (.b (w21_0 os hs u v)) [] :=
  con_of SW3_ok mixed Try.func21 (c := c21) rfl (names 21 _ Try.func21) lok21 ((eq21 os hs u v).trans (Tr.sound _ _ h))
noncomputable def e21 (args : List AV) (rows : List Blk) : Option (Bool × AV × List Blk) := match args, rows with
  | [.agg [.rs 32 os, .rs 55 hs], .agg [.i .i64 u, .i .i64 v]], [] => some (g21 os hs u v, .b (w21_0 os hs u v), [])
  | _, _ => none
theorem e21_ok (args : List AV) (rows : List Blk) (pre : Bool) (v : AV) (rows' : List Blk) (h : e21 args rows = some (pre, v, rows')) (hp : pre = true) : Con Try.prog 21 args rows v rows' := by
  unfold e21 at h
  split at h
  · cases h; exact con21 _ _ _ _ hp
  · cases h
-- SPEC 21
end Go.Proofs.Ytoglnllbopcejaa

set_option maxRecDepth 100000
set_option linter.unusedVariables false
namespace Go.Proofs.Ytoglnllbopcejaa
open Go Go.Ev
noncomputable def SW4 : Ev.Spec := insS 21 e21 (insS 25 e25 (insS 65 e65 (SW3)))
theorem SW4_ok : SpecOK Try.prog SW4 := insS_ok e21_ok (insS_ok e25_ok (insS_ok e65_ok (SW3_ok)))
end Go.Proofs.Ytoglnllbopcejaa

set_option maxRecDepth 100000
set_option maxHeartbeats 0
set_option linter.unusedVariables false
namespace Go.Proofs.Ytoglnllbopcejaa
open Go Go.Ev

noncomputable def c56 : Code := match Try.f56.body with | some c => c | _ => .skip
theorem lok56 : LOK Try.prog SW4 (ro 56) (fun _ _ => none) 0 false c56 [] :=
  lok_lo (fun _ _ _ _ _ _ _ h _ => by cases h) c56 [] false (locate_nil _) (by kernel_rfl)
noncomputable def t56 (os : List (List AV)) : Tr ((Bool)) :=
  .cn (g65 os) (.lf (decide (w65_0 os ≥ 0))) (.nn)
noncomputable def g56 (os : List (List AV)) : Bool := (t56 os).g
noncomputable def w56_0 (os : List (List AV)) : Bool := (t56 os).val
theorem eq56 (os : List (List AV)) : evF Try.prog SW4 (ro 56) (fun _ _ => none) Try.f56 [.rs 32 os, .fn 57 []] = (t56 os).opt (fun (x : (Bool)) => (.b x : AV)) := by kernel_rfl
theorem con56 (os : List (List AV)) (h : g56 os = true) : Con Try.prog 56 [.rs 32 os, .fn 57 []] [] (.b (w56_0 os)) [] :=
  con_of SW4_ok mixed Try.func56 (c := c56) rfl (names 56 _ Try.func56) lok56 ((eq56 os).trans (Tr.sound _ _ h))
noncomputable def e56 (args : List AV) (rows : List Blk) : Option (Bool × AV × List Blk) := match args, rows with
  | [.rs 32 os, .fn 57 []], [] => some (g56 os, .b (w56_0 os), [])
  | _, _ => none
theorem e56_ok (args : List AV) (rows : List Blk) (pre : Bool) (v : AV) (rows' : List Blk) (h : e56 args rows = some (pre, v, rows')) (hp : pre = true) : Con Try.prog 56 args rows v rows' := by
  unfold e56 at h
  split at h
  · cases h; exact con56 _ hp
  · cases h
-- SPEC 56
end Go.Proofs.Ytoglnllbopcejaa
