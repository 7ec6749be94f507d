/-
  The law RidgeFibonacci of the roofer's ridges answers true whatever byte it is handed; no conditions.
-/
import Derived.Test.YtgifjphinkbcaaaIb
import Derived.Test.YtgifjphinkbcaaaRe
set_option linter.unusedVariables false
set_option maxRecDepth 100000
set_option linter.unusedVariables false
namespace Go.Proofs.Ytgifjphinkbcaaa
open Go Go.Ev
noncomputable def SG : Ev.Spec := insS 20 e20 (insS 19 e19 (S0))
theorem SG_ok : SpecOK Try.prog SG := insS_ok e20_ok (insS_ok e19_ok (S0_ok))
end Go.Proofs.Ytgifjphinkbcaaa

set_option maxRecDepth 100000
set_option maxHeartbeats 1000000
set_option linter.unusedVariables false
namespace Go.Proofs.Ytgifjphinkbcaaa
open Go Go.Ev

/-! ### RidgeFibonacci -/
noncomputable def c4 : Code := match Try.f4.body with | some c => c | _ => .skip
noncomputable def lp4a : Code := loopAt c4 [true, true, true, true, false, true, false]
noncomputable def s4a (t2 : Bool) (t3 : Int) (t5 : Int) (t6 : Int) (t7 : Int) (m10_0 : Int) (m10_1 : Int) (m10_2 : Int) (m10_3 : List (List AV)) : St :=
  { t := [(2, .b t2), (3, .i .i64 t3), (4, .p 10 0 0), (5, .i .i64 t5), (6, .i .i64 t6), (7, .i .i64 t7)], m := [(0, .dead), (1, .dead), (2, .dead), (3, .dead), (4, .dead), (5, .dead), (6, .dead), (7, .dead), (8, .dead), (9, .dead), (10, .row 24 [[.i .i64 m10_0, .i .i64 m10_1, .i .i64 m10_2, .rs 31 m10_3]])], nx := 11, nt := 53 }
structure S4a where
  t5 : Int
  t6 : Int
  t7 : Int
inductive T4a where
  | x0 (t5 : Int) (t6 : Int) (t7 : Int)
noncomputable def stp4a (t2 : Bool) (t3 : Int) (m10_0 : Int) (m10_1 : Int) (m10_2 : Int) (m10_3 : List (List AV)) (t5 : Int) (t6 : Int) (t7 : Int) : Lp S4a T4a :=
  cond (decide (t7 < t3)) (.go ⟨t6, IntKind.i64.wrap (t5 + t6), IntKind.i64.wrap (t7 + 1)⟩) (.out (.x0 t5 t6 t7))
noncomputable def o4a_0 (t2 : Bool) (t3 : Int) (m10_0 : Int) (m10_1 : Int) (m10_2 : Int) (m10_3 : List (List AV)) (t5 : Int) (t6 : Int) (t7 : Int) : St :=
  { t := [(2, .b t2), (3, .i .i64 t3), (4, .p 10 0 0), (5, .i .i64 t5), (6, .i .i64 t6), (7, .i .i64 t7)], m := [(0, .dead), (1, .dead), (2, .dead), (3, .dead), (4, .dead), (5, .dead), (6, .dead), (7, .dead), (8, .dead), (9, .dead), (10, .row 24 [[.i .i64 m10_0, .i .i64 m10_1, .i .i64 m10_2, .rs 31 m10_3]])], nx := 11, nt := 53 }
noncomputable def ou4a (t2 : Bool) (t3 : Int) (m10_0 : Int) (m10_1 : Int) (m10_2 : Int) (m10_3 : List (List AV)) : T4a → Ex × St
  | .x0 t5 t6 t7 => (.ext 0, o4a_0 t2 t3 m10_0 m10_1 m10_2 m10_3 t5 t6 t7)
noncomputable def r4a (t2 : Bool) (t3 : Int) (m10_0 : Int) (m10_1 : Int) (m10_2 : Int) (m10_3 : List (List AV)) (t5 : Int) (t6 : Int) (t7 : Int) : Option T4a := run (fun x => stp4a t2 t3 m10_0 m10_1 m10_2 m10_3 x.t5 x.t6 x.t7) (⟨t5, t6, t7⟩ : S4a)
noncomputable def i4a_0 (t2 : Bool) (t3 : Int) (m10_0 : Int) (m10_1 : Int) (m10_2 : Int) (m10_3 : List (List AV)) (t5 : Int) (t6 : Int) (t7 : Int) : Bool := match r4a t2 t3 m10_0 m10_1 m10_2 m10_3 t5 t6 t7 with
  | some (.x0 _ _ _) => true
  | _ => false
noncomputable def v4a_0_t5 (t2 : Bool) (t3 : Int) (m10_0 : Int) (m10_1 : Int) (m10_2 : Int) (m10_3 : List (List AV)) (t5 : Int) (t6 : Int) (t7 : Int) : Int := match r4a t2 t3 m10_0 m10_1 m10_2 m10_3 t5 t6 t7 with
  | some (.x0 t5 _ _) => t5
  | _ => default
noncomputable def v4a_0_t6 (t2 : Bool) (t3 : Int) (m10_0 : Int) (m10_1 : Int) (m10_2 : Int) (m10_3 : List (List AV)) (t5 : Int) (t6 : Int) (t7 : Int) : Int := match r4a t2 t3 m10_0 m10_1 m10_2 m10_3 t5 t6 t7 with
  | some (.x0 _ t6 _) => t6
  | _ => default
noncomputable def v4a_0_t7 (t2 : Bool) (t3 : Int) (m10_0 : Int) (m10_1 : Int) (m10_2 : Int) (m10_3 : List (List AV)) (t5 : Int) (t6 : Int) (t7 : Int) : Int := match r4a t2 t3 m10_0 m10_1 m10_2 m10_3 t5 t6 t7 with
  | some (.x0 _ _ t7) => t7
  | _ => default
noncomputable def l4a (st : St) : Option (List (Bool × Ex × St)) := match normW Try.prog [(2, none), (3, none), (4, none), (5, none), (6, none), (7, none)] 11 st with
  | some ([.b t2, .i .i64 t3, .p 10 0 0, .i .i64 t5, .i .i64 t6, .i .i64 t7], [(0, .dead), (1, .dead), (2, .dead), (3, .dead), (4, .dead), (5, .dead), (6, .dead), (7, .dead), (8, .dead), (9, .dead), (10, .row 24 [[.i .i64 m10_0, .i .i64 m10_1, .i .i64 m10_2, .rs 31 m10_3]])], 11, 53) => some [(i4a_0 t2 t3 m10_0 m10_1 m10_2 m10_3 t5 t6 t7, .ext 0, o4a_0 t2 t3 m10_0 m10_1 m10_2 m10_3 (v4a_0_t5 t2 t3 m10_0 m10_1 m10_2 m10_3 t5 t6 t7) (v4a_0_t6 t2 t3 m10_0 m10_1 m10_2 m10_3 t5 t6 t7) (v4a_0_t7 t2 t3 m10_0 m10_1 m10_2 m10_3 t5 t6 t7))]
  | _ => none
noncomputable def L4 : LSpec := fun p st => match p with
  | [false, true, false, true, true, true, true] => l4a st
  | _ => none
theorem is4a_0 (t2 : Bool) (t3 : Int) (m10_0 : Int) (m10_1 : Int) (m10_2 : Int) (m10_3 : List (List AV)) (t5 : Int) (t6 : Int) (t7 : Int) (h : i4a_0 t2 t3 m10_0 m10_1 m10_2 m10_3 t5 t6 t7 = true) : r4a t2 t3 m10_0 m10_1 m10_2 m10_3 t5 t6 t7 = some (.x0 (v4a_0_t5 t2 t3 m10_0 m10_1 m10_2 m10_3 t5 t6 t7) (v4a_0_t6 t2 t3 m10_0 m10_1 m10_2 m10_3 t5 t6 t7) (v4a_0_t7 t2 t3 m10_0 m10_1 m10_2 m10_3 t5 t6 t7)) := by
  unfold i4a_0 at h
  unfold v4a_0_t5 v4a_0_t6 v4a_0_t7
  generalize r4a t2 t3 m10_0 m10_1 m10_2 m10_3 t5 t6 t7 = r at h ⊢
  rcases r with _ | y
  · cases h
  · cases y <;> first | rfl | cases h
theorem round4a (t2 : Bool) (t3 : Int) (t5 : Int) (t6 : Int) (t7 : Int) (m10_0 : Int) (m10_1 : Int) (m10_2 : Int) (m10_3 : List (List AV)) : round Try.prog SG (ro 4) L4 lp4a [false, true, false, true, true, true, true] [(2, none), (3, none), (4, none), (5, none), (6, none), (7, none)] 11 (s4a t2 t3 t5 t6 t7 m10_0 m10_1 m10_2 m10_3) =
    cond (decide (t7 < t3)) (some (.nrm, s4a t2 t3 t6 (IntKind.i64.wrap (t5 + t6)) (IntKind.i64.wrap (t7 + 1)) m10_0 m10_1 m10_2 m10_3)) (some (.ext 0, o4a_0 t2 t3 m10_0 m10_1 m10_2 m10_3 t5 t6 t7)) := by kernel_rfl
theorem rnd4a (t2 : Bool) (t3 : Int) (m10_0 : Int) (m10_1 : Int) (m10_2 : Int) (m10_3 : List (List AV)) (x : S4a) : round Try.prog SG (ro 4) L4 lp4a [false, true, false, true, true, true, true] [(2, none), (3, none), (4, none), (5, none), (6, none), (7, none)] 11 ((fun x => s4a t2 t3 x.t5 x.t6 x.t7 m10_0 m10_1 m10_2 m10_3) x) = toR (fun x => s4a t2 t3 x.t5 x.t6 x.t7 m10_0 m10_1 m10_2 m10_3) (ou4a t2 t3 m10_0 m10_1 m10_2 m10_3) (stp4a t2 t3 m10_0 m10_1 m10_2 m10_3 x.t5 x.t6 x.t7) := by
  refine (round4a _ _ _ _ _ _ _ _ _ ).trans ?_
  unfold stp4a
  simp only [toR_cond]
  rfl
theorem lok4a {st : St} {outs : List (Bool × Ex × St)} {e : Ex} {s : St} (hl : l4a st = some outs) (hch : Chosen outs e s) :
    ∃ keep nb, 0 ≤ nb ∧ LB Try.prog SG (ro 4) L4 lp4a [false, true, false, true, true, true, true] keep nb st e s := by
  unfold l4a at hl
  split at hl
  · rename_i t2 t3 t5 t6 t7 m10_0 m10_1 m10_2 m10_3 hno
    cases hl
    have hno := normW_norm hno
    refine ⟨_, _, ?_, .enter hno ?_⟩
    · decide
    have main := fun y h => LB_run (x := (⟨t5, t6, t7⟩ : S4a)) (y := y) (nb := 11) (fun y => by cases y <;> simp [ou4a]) (rnd4a t2 t3 m10_0 m10_1 m10_2 m10_3) h
    obtain ⟨x, hx, hg, rfl, rfl⟩ := chosen_any hch
    simp only [List.mem_cons, List.not_mem_nil, or_false] at hx
    subst hx
    exact main _ (is4a_0 t2 t3 m10_0 m10_1 m10_2 m10_3 t5 t6 t7 hg)
  · cases hl
theorem L4_ok (q : Pl) (c : Code) (hq : locate c4 q.reverse = some (.loop c)) (st : St) (outs : List (Bool × Ex × St)) (e : Ex) (s : St) (hl : L4 q st = some outs) (hch : Chosen outs e s) :
    ∃ keep nb, 0 ≤ nb ∧ LB Try.prog SG (ro 4) L4 c q keep nb st e s := by
  unfold L4 at hl
  split at hl
  · have : locate c4 ([false, true, false, true, true, true, true] : Pl).reverse = some (.loop lp4a) := by kernel_rfl
    rw [this] at hq
    cases hq
    exact lok4a hl hch
  · cases hl
theorem lok4 : LOK Try.prog SG (ro 4) L4 0 false c4 [] :=
  lok_lo L4_ok c4 [] false (locate_nil _) (by kernel_rfl)
noncomputable def t4 (x : Int) : Tr ((Bool)) :=
  .cn (i4a_0 false ((IntKind.i64.wrap x).tmod 91) ((IntKind.i64.wrap x).tmod 91) 0 0 [[AV.s (⟨#[97]⟩ : ByteArray), AV.i IntKind.i64 1, AV.i IntKind.i64 0, AV.i IntKind.i64 0, AV.i IntKind.i64 0], [AV.s (⟨#[98]⟩ : ByteArray), AV.i IntKind.i64 2, AV.i IntKind.i64 0, AV.i IntKind.i64 0, AV.i IntKind.i64 1]] 1 1 1) (.cn (g20 ((IntKind.i64.wrap x).tmod 91) 0 0 [[AV.s (⟨#[97]⟩ : ByteArray), AV.i IntKind.i64 1, AV.i IntKind.i64 0, AV.i IntKind.i64 0, AV.i IntKind.i64 0], [AV.s (⟨#[98]⟩ : ByteArray), AV.i IntKind.i64 2, AV.i IntKind.i64 0, AV.i IntKind.i64 0, AV.i IntKind.i64 1]]) (.cn (decide (v4a_0_t6 false ((IntKind.i64.wrap x).tmod 91) ((IntKind.i64.wrap x).tmod 91) 0 0 [[AV.s (⟨#[97]⟩ : ByteArray), AV.i IntKind.i64 1, AV.i IntKind.i64 0, AV.i IntKind.i64 0, AV.i IntKind.i64 0], [AV.s (⟨#[98]⟩ : ByteArray), AV.i IntKind.i64 2, AV.i IntKind.i64 0, AV.i IntKind.i64 0, AV.i IntKind.i64 1]] 1 1 1 > 1000000000000000)) (.cn (w20_1 ((IntKind.i64.wrap x).tmod 91) 0 0 [[AV.s (⟨#[97]⟩ : ByteArray), AV.i IntKind.i64 1, AV.i IntKind.i64 0, AV.i IntKind.i64 0, AV.i IntKind.i64 0], [AV.s (⟨#[98]⟩ : ByteArray), AV.i IntKind.i64 2, AV.i IntKind.i64 0, AV.i IntKind.i64 0, AV.i IntKind.i64 1]] == 3) (.cn (w20_0 ((IntKind.i64.wrap x).tmod 91) 0 0 [[AV.s (⟨#[97]⟩ : ByteArray), AV.i IntKind.i64 1, AV.i IntKind.i64 0, AV.i IntKind.i64 0, AV.i IntKind.i64 0], [AV.s (⟨#[98]⟩ : ByteArray), AV.i IntKind.i64 2, AV.i IntKind.i64 0, AV.i IntKind.i64 0, AV.i IntKind.i64 1]] == 0) (.lf (true)) (.lf (false))) (.lf (false))) (.cn (w20_1 ((IntKind.i64.wrap x).tmod 91) 0 0 [[AV.s (⟨#[97]⟩ : ByteArray), AV.i IntKind.i64 1, AV.i IntKind.i64 0, AV.i IntKind.i64 0, AV.i IntKind.i64 0], [AV.s (⟨#[98]⟩ : ByteArray), AV.i IntKind.i64 2, AV.i IntKind.i64 0, AV.i IntKind.i64 0, AV.i IntKind.i64 1]] == 0) (.cn (w20_0 ((IntKind.i64.wrap x).tmod 91) 0 0 [[AV.s (⟨#[97]⟩ : ByteArray), AV.i IntKind.i64 1, AV.i IntKind.i64 0, AV.i IntKind.i64 0, AV.i IntKind.i64 0], [AV.s (⟨#[98]⟩ : ByteArray), AV.i IntKind.i64 2, AV.i IntKind.i64 0, AV.i IntKind.i64 0, AV.i IntKind.i64 1]] == v4a_0_t6 false ((IntKind.i64.wrap x).tmod 91) ((IntKind.i64.wrap x).tmod 91) 0 0 [[AV.s (⟨#[97]⟩ : ByteArray), AV.i IntKind.i64 1, AV.i IntKind.i64 0, AV.i IntKind.i64 0, AV.i IntKind.i64 0], [AV.s (⟨#[98]⟩ : ByteArray), AV.i IntKind.i64 2, AV.i IntKind.i64 0, AV.i IntKind.i64 0, AV.i IntKind.i64 1]] 1 1 1) (.lf (true)) (.lf (false))) (.lf (false)))) (.nn)) (.nn)
noncomputable def g4 (x : Int) : Bool := (t4 x).g
noncomputable def w4_0 (x : Int) : Bool := (t4 x).val
theorem eq4 (x : Int) : evF Try.prog SG (ro 4) L4 Try.f4 [.i .u8 x] = (t4 x).opt (fun (x : (Bool)) => (.b x : AV)) := by kernel_rfl
theorem con4 (x : Int) (h : g4 x = true) : Con Try.prog 4 [.i .u8 x] [] (.b (w4_0 x)) [] :=
  con_of SG_ok mixed Try.func4 (c := c4) rfl (names 4 _ Try.func4) lok4 ((eq4 x).trans (Tr.sound _ _ h))
noncomputable def e4 (args : List AV) (rows : List Blk) : Option (Bool × AV × List Blk) := match args, rows with
  | [.i .u8 x], [] => some (g4 x, .b (w4_0 x), [])
  | _, _ => none
theorem e4_ok (args : List AV) (rows : List Blk) (pre : Bool) (v : AV) (rows' : List Blk) (h : e4 args rows = some (pre, v, rows')) (hp : pre = true) : Con Try.prog 4 args rows v rows' := by
  unfold e4 at h
  split at h
  · cases h; exact con4 _ hp
  · cases h
-- SPEC 4
end Go.Proofs.Ytgifjphinkbcaaa
