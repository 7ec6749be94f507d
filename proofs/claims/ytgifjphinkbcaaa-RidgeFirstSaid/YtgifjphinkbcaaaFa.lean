/-
  The law RidgeFirst of the roofer's ridges answers true whatever Ridge it is handed; no conditions.
-/
import Derived.Test.YtgifjphinkbcaaaRa
import Derived.Test.YtgifjphinkbcaaaIb
import Derived.Test.YtgifjphinkbcaaaRe
set_option linter.unusedVariables false
set_option maxRecDepth 100000
set_option linter.unusedVariables false
namespace Go.Proofs.Ytgifjphinkbcaaa
open Go Go.Ev
noncomputable def SF : Ev.Spec := insS 20 e20 (insS 19 e19 (insS 18 e18 (S0)))
theorem SF_ok : SpecOK Try.prog SF := insS_ok e20_ok (insS_ok e19_ok (insS_ok e18_ok (S0_ok)))
end Go.Proofs.Ytgifjphinkbcaaa

set_option maxRecDepth 100000
set_option maxHeartbeats 1000000
set_option linter.unusedVariables false
namespace Go.Proofs.Ytgifjphinkbcaaa
open Go Go.Ev

/-! ### RidgeFirst -/
noncomputable def c3 : Code := match Try.f3.body with | some c => c | _ => .skip
noncomputable def lp3a : Code := loopAt c3 [true, true, true, true, true, false, true, false]
noncomputable def s3a (ra : Int) (rb : Int) (rc : Int) (ps : List (List AV)) (t2 : Bool) (t3 : Int) (t5 : Int) (t6 : Int) : St :=
  { t := [(1, .rp [.int .i64, .int .i64, .int .i64, .sl 31] [.i .i64 ra, .i .i64 rb, .i .i64 rc, .rs 31 ps] 0), (2, .b t2), (3, .i .i64 t3), (5, .i .i64 t5), (6, .i .i64 t6)], m := [], nx := 0, nt := 86 }
structure S3a where
  t5 : Int
  t6 : Int
inductive T3a where
  | x0 (t2' : Bool) (t5 : Int) (t6 : Int)
  | x1 (t5 : Int) (t6 : Int)
noncomputable def stp3a (ra : Int) (rb : Int) (rc : Int) (ps : List (List AV)) (t2 : Bool) (t3 : Int) (t5 : Int) (t6 : Int) : Lp S3a T3a :=
  cond (decide (t6 < (↑ps.length : Int))) (cond (inb t6 ps.length) (cond (fI (ps.getD t6.toNat []) 2 != rb) (.go ⟨t5, IntKind.i64.wrap (t6 + 1)⟩) (cond (decide (fI (ps.getD t6.toNat []) 1 > ra)) (.go ⟨t5, IntKind.i64.wrap (t6 + 1)⟩) (cond (g20 (IntKind.i64.wrap (ra - fI (ps.getD t6.toNat []) 1)) (fI (ps.getD t6.toNat []) 3) rc ps) (cond (w20_1 (IntKind.i64.wrap (ra - fI (ps.getD t6.toNat []) 1)) (fI (ps.getD t6.toNat []) 3) rc ps != 0) (.out (.x0 false t5 t6)) (cond (decide (w20_0 (IntKind.i64.wrap (ra - fI (ps.getD t6.toNat []) 1)) (fI (ps.getD t6.toNat []) 3) rc ps < 0)) (.out (.x0 false t5 t6)) (cond (decide (w20_0 (IntKind.i64.wrap (ra - fI (ps.getD t6.toNat []) 1)) (fI (ps.getD t6.toNat []) 3) rc ps > t3)) (.out (.x0 false t5 t6)) (.go ⟨IntKind.i64.wrap (t5 + w20_0 (IntKind.i64.wrap (ra - fI (ps.getD t6.toNat []) 1)) (fI (ps.getD t6.toNat []) 3) rc ps), IntKind.i64.wrap (t6 + 1)⟩)))) (.bad)))) (.bad)) (.out (.x1 t5 t6))
noncomputable def o3a_0 (ra : Int) (rb : Int) (rc : Int) (ps : List (List AV)) (t2 : Bool) (t3 : Int) (t2' : Bool) (t5 : Int) (t6 : Int) : St :=
  { t := [(1, .rp [.int .i64, .int .i64, .int .i64, .sl 31] [.i .i64 ra, .i .i64 rb, .i .i64 rc, .rs 31 ps] 0), (2, .b t2'), (3, .i .i64 t3), (5, .i .i64 t5), (6, .i .i64 t6)], m := [], nx := 0, nt := 86 }
noncomputable def o3a_1 (ra : Int) (rb : Int) (rc : Int) (ps : List (List AV)) (t2 : Bool) (t3 : Int) (t5 : Int) (t6 : Int) : St :=
  { t := [(1, .rp [.int .i64, .int .i64, .int .i64, .sl 31] [.i .i64 ra, .i .i64 rb, .i .i64 rc, .rs 31 ps] 0), (2, .b t2), (3, .i .i64 t3), (5, .i .i64 t5), (6, .i .i64 t6)], m := [], nx := 0, nt := 86 }
noncomputable def ou3a (ra : Int) (rb : Int) (rc : Int) (ps : List (List AV)) (t2 : Bool) (t3 : Int) : T3a → Ex × St
  | .x0 t2' t5 t6 => (.ret, o3a_0 ra rb rc ps t2 t3 t2' t5 t6)
  | .x1 t5 t6 => (.ext 0, o3a_1 ra rb rc ps t2 t3 t5 t6)
noncomputable def r3a (ra : Int) (rb : Int) (rc : Int) (ps : List (List AV)) (t2 : Bool) (t3 : Int) (t5 : Int) (t6 : Int) : Option T3a := run (fun x => stp3a ra rb rc ps t2 t3 x.t5 x.t6) (⟨t5, t6⟩ : S3a)
noncomputable def i3a_0 (ra : Int) (rb : Int) (rc : Int) (ps : List (List AV)) (t2 : Bool) (t3 : Int) (t5 : Int) (t6 : Int) : Bool := match r3a ra rb rc ps t2 t3 t5 t6 with
  | some (.x0 _ _ _) => true
  | _ => false
noncomputable def v3a_0_t2' (ra : Int) (rb : Int) (rc : Int) (ps : List (List AV)) (t2 : Bool) (t3 : Int) (t5 : Int) (t6 : Int) : Bool := match r3a ra rb rc ps t2 t3 t5 t6 with
  | some (.x0 t2' _ _) => t2'
  | _ => default
noncomputable def v3a_0_t5 (ra : Int) (rb : Int) (rc : Int) (ps : List (List AV)) (t2 : Bool) (t3 : Int) (t5 : Int) (t6 : Int) : Int := match r3a ra rb rc ps t2 t3 t5 t6 with
  | some (.x0 _ t5 _) => t5
  | _ => default
noncomputable def v3a_0_t6 (ra : Int) (rb : Int) (rc : Int) (ps : List (List AV)) (t2 : Bool) (t3 : Int) (t5 : Int) (t6 : Int) : Int := match r3a ra rb rc ps t2 t3 t5 t6 with
  | some (.x0 _ _ t6) => t6
  | _ => default
noncomputable def i3a_1 (ra : Int) (rb : Int) (rc : Int) (ps : List (List AV)) (t2 : Bool) (t3 : Int) (t5 : Int) (t6 : Int) : Bool := match r3a ra rb rc ps t2 t3 t5 t6 with
  | some (.x1 _ _) => true
  | _ => false
noncomputable def v3a_1_t5 (ra : Int) (rb : Int) (rc : Int) (ps : List (List AV)) (t2 : Bool) (t3 : Int) (t5 : Int) (t6 : Int) : Int := match r3a ra rb rc ps t2 t3 t5 t6 with
  | some (.x1 t5 _) => t5
  | _ => default
noncomputable def v3a_1_t6 (ra : Int) (rb : Int) (rc : Int) (ps : List (List AV)) (t2 : Bool) (t3 : Int) (t5 : Int) (t6 : Int) : Int := match r3a ra rb rc ps t2 t3 t5 t6 with
  | some (.x1 _ t6) => t6
  | _ => default
noncomputable def l3a (st : St) : Option (List (Bool × Ex × St)) := match normW Try.prog [(1, none), (2, none), (3, none), (5, none), (6, none)] 0 st with
  | some ([.rp [.int .i64, .int .i64, .int .i64, .sl 31] [.i .i64 ra, .i .i64 rb, .i .i64 rc, .rs 31 ps] 0, .b t2, .i .i64 t3, .i .i64 t5, .i .i64 t6], [], 0, 86) => some [(i3a_0 ra rb rc ps t2 t3 t5 t6, .ret, o3a_0 ra rb rc ps t2 t3 (v3a_0_t2' ra rb rc ps t2 t3 t5 t6) (v3a_0_t5 ra rb rc ps t2 t3 t5 t6) (v3a_0_t6 ra rb rc ps t2 t3 t5 t6)), (i3a_1 ra rb rc ps t2 t3 t5 t6, .ext 0, o3a_1 ra rb rc ps t2 t3 (v3a_1_t5 ra rb rc ps t2 t3 t5 t6) (v3a_1_t6 ra rb rc ps t2 t3 t5 t6))]
  | _ => none
noncomputable def L3 : LSpec := fun p st => match p with
  | [false, true, false, true, true, true, true, true] => l3a st
  | _ => none
theorem is3a_0 (ra : Int) (rb : Int) (rc : Int) (ps : List (List AV)) (t2 : Bool) (t3 : Int) (t5 : Int) (t6 : Int) (h : i3a_0 ra rb rc ps t2 t3 t5 t6 = true) : r3a ra rb rc ps t2 t3 t5 t6 = some (.x0 (v3a_0_t2' ra rb rc ps t2 t3 t5 t6) (v3a_0_t5 ra rb rc ps t2 t3 t5 t6) (v3a_0_t6 ra rb rc ps t2 t3 t5 t6)) := by
  unfold i3a_0 at h
  unfold v3a_0_t2' v3a_0_t5 v3a_0_t6
  generalize r3a ra rb rc ps t2 t3 t5 t6 = r at h ⊢
  rcases r with _ | y
  · cases h
  · cases y <;> first | rfl | cases h
theorem is3a_1 (ra : Int) (rb : Int) (rc : Int) (ps : List (List AV)) (t2 : Bool) (t3 : Int) (t5 : Int) (t6 : Int) (h : i3a_1 ra rb rc ps t2 t3 t5 t6 = true) : r3a ra rb rc ps t2 t3 t5 t6 = some (.x1 (v3a_1_t5 ra rb rc ps t2 t3 t5 t6) (v3a_1_t6 ra rb rc ps t2 t3 t5 t6)) := by
  unfold i3a_1 at h
  unfold v3a_1_t5 v3a_1_t6
  generalize r3a ra rb rc ps t2 t3 t5 t6 = r at h ⊢
  rcases r with _ | y
  · cases h
  · cases y <;> first | rfl | cases h
theorem round3a (ra : Int) (rb : Int) (rc : Int) (ps : List (List AV)) (t2 : Bool) (t3 : Int) (t5 : Int) (t6 : Int) : round Try.prog SF (ro 3) L3 lp3a [false, true, false, true, true, true, true, true] [(1, none), (2, none), (3, none), (5, none), (6, none)] 0 (s3a ra rb rc ps t2 t3 t5 t6) =
    cond (decide (t6 < (↑ps.length : Int))) (cond (inb t6 ps.length) (cond (fI (ps.getD t6.toNat []) 2 != rb) (some (.nrm, s3a ra rb rc ps t2 t3 t5 (IntKind.i64.wrap (t6 + 1)))) (cond (decide (fI (ps.getD t6.toNat []) 1 > ra)) (some (.nrm, s3a ra rb rc ps t2 t3 t5 (IntKind.i64.wrap (t6 + 1)))) (cond (g20 (IntKind.i64.wrap (ra - fI (ps.getD t6.toNat []) 1)) (fI (ps.getD t6.toNat []) 3) rc ps) (cond (w20_1 (IntKind.i64.wrap (ra - fI (ps.getD t6.toNat []) 1)) (fI (ps.getD t6.toNat []) 3) rc ps != 0) (some (.ret, o3a_0 ra rb rc ps t2 t3 false t5 t6)) (cond (decide (w20_0 (IntKind.i64.wrap (ra - fI (ps.getD t6.toNat []) 1)) (fI (ps.getD t6.toNat []) 3) rc ps < 0)) (some (.ret, o3a_0 ra rb rc ps t2 t3 false t5 t6)) (cond (decide (w20_0 (IntKind.i64.wrap (ra - fI (ps.getD t6.toNat []) 1)) (fI (ps.getD t6.toNat []) 3) rc ps > t3)) (some (.ret, o3a_0 ra rb rc ps t2 t3 false t5 t6)) (some (.nrm, s3a ra rb rc ps t2 t3 (IntKind.i64.wrap (t5 + w20_0 (IntKind.i64.wrap (ra - fI (ps.getD t6.toNat []) 1)) (fI (ps.getD t6.toNat []) 3) rc ps)) (IntKind.i64.wrap (t6 + 1))))))) (none)))) (none)) (some (.ext 0, o3a_1 ra rb rc ps t2 t3 t5 t6)) := by kernel_rfl
theorem rnd3a (ra : Int) (rb : Int) (rc : Int) (ps : List (List AV)) (t2 : Bool) (t3 : Int) (x : S3a) : round Try.prog SF (ro 3) L3 lp3a [false, true, false, true, true, true, true, true] [(1, none), (2, none), (3, none), (5, none), (6, none)] 0 ((fun x => s3a ra rb rc ps t2 t3 x.t5 x.t6) x) = toR (fun x => s3a ra rb rc ps t2 t3 x.t5 x.t6) (ou3a ra rb rc ps t2 t3) (stp3a ra rb rc ps t2 t3 x.t5 x.t6) := by
  refine (round3a _ _ _ _ _ _ _ _ ).trans ?_
  unfold stp3a
  simp only [toR_cond]
  rfl
theorem lok3a {st : St} {outs : List (Bool × Ex × St)} {e : Ex} {s : St} (hl : l3a st = some outs) (hch : Chosen outs e s) :
    ∃ keep nb, 0 ≤ nb ∧ LB Try.prog SF (ro 3) L3 lp3a [false, true, false, true, true, true, true, true] keep nb st e s := by
  unfold l3a at hl
  split at hl
  · rename_i ra rb rc ps t2 t3 t5 t6 hno
    cases hl
    have hno := normW_norm hno
    refine ⟨_, _, ?_, .enter hno ?_⟩
    · decide
    have main := fun y h => LB_run (x := (⟨t5, t6⟩ : S3a)) (y := y) (nb := 0) (fun y => by cases y <;> simp [ou3a]) (rnd3a ra rb rc ps t2 t3) h
    obtain ⟨x, hx, hg, rfl, rfl⟩ := chosen_any hch
    simp only [List.mem_cons, List.not_mem_nil, or_false] at hx
    rcases hx with rfl | rfl
    · exact main _ (is3a_0 ra rb rc ps t2 t3 t5 t6 hg)
    · exact main _ (is3a_1 ra rb rc ps t2 t3 t5 t6 hg)
  · cases hl
theorem L3_ok (q : Pl) (c : Code) (hq : locate c3 q.reverse = some (.loop c)) (st : St) (outs : List (Bool × Ex × St)) (e : Ex) (s : St) (hl : L3 q st = some outs) (hch : Chosen outs e s) :
    ∃ keep nb, 0 ≤ nb ∧ LB Try.prog SF (ro 3) L3 c q keep nb st e s := by
  unfold L3 at hl
  split at hl
  · have : locate c3 ([false, true, false, true, true, true, true, true] : Pl).reverse = some (.loop lp3a) := by kernel_rfl
    rw [this] at hq
    cases hq
    exact lok3a hl hch
  · cases hl
theorem lok3 : LOK Try.prog SF (ro 3) L3 0 false c3 [] :=
  lok_lo L3_ok c3 [] false (locate_nil _) (by kernel_rfl)
noncomputable def t3 (ra rb rc : Int) (ps : List (List AV)) : Tr ((Bool)) :=
  .cn (g18 ra rb rc ps) (.cn (w18_0 ra rb rc ps) (.lf (true)) (.cn (g20 ra rb rc ps) (.cn (w20_1 ra rb rc ps != 0) (.lf (true)) (.cn (ra == 0) (.lf (true)) (.cn (i3a_0 ra rb rc ps false (w20_0 ra rb rc ps) 0 0) (.lf (v3a_0_t2' ra rb rc ps false (w20_0 ra rb rc ps) 0 0)) (.cn (i3a_1 ra rb rc ps false (w20_0 ra rb rc ps) 0 0) (.cn (v3a_1_t5 ra rb rc ps false (w20_0 ra rb rc ps) 0 0 == w20_0 ra rb rc ps) (.lf (true)) (.lf (false))) (.nn))))) (.nn))) (.nn)
noncomputable def g3 (ra rb rc : Int) (ps : List (List AV)) : Bool := (t3 ra rb rc ps).g
noncomputable def w3_0 (ra rb rc : Int) (ps : List (List AV)) : Bool := (t3 ra rb rc ps).val
theorem eq3 (ra rb rc : Int) (ps : List (List AV)) : evF Try.prog SF (ro 3) L3 Try.f3 [.agg [.i .i64 ra, .i .i64 rb, .i .i64 rc, .rs 31 ps]] = (t3 ra rb rc ps).opt (fun (x : (Bool)) => (.b x : AV)) := by kernel_rfl
theorem con3 (ra rb rc : Int) (ps : List (List AV)) (h : g3 ra rb rc ps = true) : Con Try.prog 3 [.agg [.i .i64 ra, .i .i64 rb, .i .i64 rc, .rs 31 ps]] [] (.b (w3_0 ra rb rc ps)) [] :=
  con_of SF_ok mixed Try.func3 (c := c3) rfl (names 3 _ Try.func3) lok3 ((eq3 ra rb rc ps).trans (Tr.sound _ _ h))
noncomputable def e3 (args : List AV) (rows : List Blk) : Option (Bool × AV × List Blk) := match args, rows with
  | [.agg [.i .i64 ra, .i .i64 rb, .i .i64 rc, .rs 31 ps]], [] => some (g3 ra rb rc ps, .b (w3_0 ra rb rc ps), [])
  | _, _ => none
theorem e3_ok (args : List AV) (rows : List Blk) (pre : Bool) (v : AV) (rows' : List Blk) (h : e3 args rows = some (pre, v, rows')) (hp : pre = true) : Con Try.prog 3 args rows v rows' := by
  unfold e3 at h
  split at h
  · cases h; exact con3 _ _ _ _ hp
  · cases h
-- SPEC 3
end Go.Proofs.Ytgifjphinkbcaaa
