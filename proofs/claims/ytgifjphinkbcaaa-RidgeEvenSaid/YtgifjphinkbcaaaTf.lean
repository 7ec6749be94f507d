/-
  The law RidgeEven of the roofer's ridges answers true whatever Ridge it is handed; no conditions.
-/
import Derived.Test.YtgifjphinkbcaaaTe
import Derived.Test.YtgifjphinkbcaaaTd
set_option linter.unusedVariables false
set_option maxRecDepth 1000000
set_option maxHeartbeats 0
set_option linter.unusedVariables false
namespace Go.Proofs.Ytgifjphinkbcaaa
open Go Go.Ev
/-- The patterns, reckoned. -/
def patF (db : Int) (cs : List (List AV)) (ms : List AV) : Nat → Bool → Nat → Int → List AV → Option (List (List AV) × List AV)
  | 0, _, _, _, _ => none
  | n + 1, false, j, room, X => cond (Nat.beq j cs.length) (some ([enc8 X], X)) (cond (Nat.blt j cs.length && Nat.blt j 8) (match patF db cs ms n true j room (setCs X j [.i .i64 0]) with
    | some (l, X') => some (l, setCs X' j [.i .i64 0])
    | none => none) none)
  | n + 1, true, j, room, X => cond (decide (fI X j ≤ fI ms j) && decide (room ≥ 0)) (match patF db cs ms n false (j + 1) room X with
    | some (l1, X1) => match patF db cs ms n true j (IntKind.i64.wrap (room - wid db cs j)) (setCs X1 j [.i .i64 (IntKind.i64.wrap (fI X1 j + 1))]) with
      | some (l2, X2) => some (l1 ++ l2, X2)
      | none => none
    | none => none) (some ([], X))
theorem patF_ok {db : Int} {cs : List (List AV)} {ms : List AV} : ∀ {n : Nat} {b : Bool} {j : Nat} {room : Int} {X X' : List AV} {l : List (List AV)}, patF db cs ms n b j room X = some (l, X') → PT db cs ms b j room X l X'
  | 0, _, _, _, _, _, _, h => by cases h
  | n + 1, false, j, room, X, X', l, h => by
    simp only [patF] at h
    cases hb : Nat.beq j cs.length with
    | true =>
      rw [hb] at h
      simp only [cond_true, Option.some.injEq, Prod.mk.injEq] at h
      obtain ⟨rfl, rfl⟩ := h
      rw [Nat.eq_of_beq_eq_true hb]
      exact .leaf
    | false =>
      rw [hb] at h
      simp only [cond_false] at h
      obtain ⟨hc, h⟩ := cond_some h
      simp only [Bool.and_eq_true, Nat.blt_eq] at hc
      split at h
      · rename_i l1 X1 h1
        simp only [Option.some.injEq, Prod.mk.injEq] at h
        obtain ⟨rfl, rfl⟩ := h
        exact .node hc.1 hc.2 (patF_ok h1)
      · cases h
  | n + 1, true, j, room, X, X', l, h => by
    simp only [patF] at h
    cases hb : (decide (fI X j ≤ fI ms j) && decide (room ≥ 0)) with
    | false =>
      rw [hb] at h
      simp only [cond_false, Option.some.injEq, Prod.mk.injEq] at h
      obtain ⟨rfl, rfl⟩ := h
      exact .stop hb
    | true =>
      rw [hb] at h
      simp only [cond_true] at h
      simp only [Bool.and_eq_true, decide_eq_true_eq] at hb
      split at h
      · rename_i l1 X1 h1
        split at h
        · rename_i l2 X2 h2
          simp only [Option.some.injEq, Prod.mk.injEq] at h
          obtain ⟨rfl, rfl⟩ := h
          exact .step hb.1 hb.2 (patF_ok h1) (patF_ok h2)
        · cases h
      · cases h
def its : ISpec := fun g caps => cond (Nat.beq g 88) (match caps with
  | [.rp [.int .i64, .int .i64, .sl 64] [.i .i64 da, .i .i64 db, .rs 64 cs] 0, .rp [.int .i64, .int .i64, .int .i64, .int .i64, .int .i64, .int .i64, .int .i64, .int .i64] [.i .i64 m0, .i .i64 m1, .i .i64 m2, .i .i64 m3, .i .i64 m4, .i .i64 m5, .i .i64 m6, .i .i64 m7] 0] =>
    match patF db cs [.i .i64 m0, .i .i64 m1, .i .i64 m2, .i .i64 m3, .i .i64 m4, .i .i64 m5, .i .i64 m6, .i .i64 m7] 100 false 0 (IntKind.i64.wrap (da + db)) zero8 with
    | some (l, _) => some l
    | none => none
  | _ => none) none
theorem its_ok : IOK Try.prog its := by
  intro g caps xs h
  unfold its at h
  obtain ⟨hg, h2⟩ := cond_some h
  clear h
  have hg := Nat.eq_of_beq_eq_true hg
  subst hg
  split at h2
  · split at h2
    · rename_i l X' h3
      cases h2
      exact pat_con (patF_ok h3)
    · cases h2
  · cases h2
noncomputable def SL : Ev.Spec := runS Try.prog its ro (fun _ _ _ => none) 300 5 12
theorem SL_ok : SpecOK Try.prog SL := runS_ok its_ok mixed names (fun _ _ _ _ _ _ h => by cases h) 12
theorem lives_eq : SL 19 [] [] = some (true, .b true, []) := by kernel_rfl
theorem lives_con : Con Try.prog 19 [] [] (.b true) [] := SL_ok _ _ _ _ _ _ lives_eq rfl
end Go.Proofs.Ytgifjphinkbcaaa

set_option linter.unusedVariables false
namespace Go.Proofs.Ytgifjphinkbcaaa
open Go Go.Ev
noncomputable def e19 (args : List AV) (rows : List Blk) : Option (Bool × AV × List Blk) := match args, rows with
  | [], [] => some (true, .b true, [])
  | _, _ => none
theorem e19_ok (args : List AV) (rows : List Blk) (pre : Bool) (v : AV) (rows' : List Blk) (h : e19 args rows = some (pre, v, rows')) (hp : pre = true) : Con Try.prog 19 args rows v rows' := by
  unfold e19 at h
  split at h
  · cases h; exact lives_con
  · cases h
-- SPEC 19
end Go.Proofs.Ytgifjphinkbcaaa

set_option maxRecDepth 100000
set_option linter.unusedVariables false
namespace Go.Proofs.Ytgifjphinkbcaaa
open Go Go.Ev
noncomputable def SF : Ev.Spec := insS 20 e20 (insS 19 e19 (insS 18 e18 (S0)))
theorem SF_ok : SpecOK Try.prog SF := insS_ok e20_ok (insS_ok e19_ok (insS_ok e18_ok (S0_ok)))
end Go.Proofs.Ytgifjphinkbcaaa

set_option maxRecDepth 100000
set_option maxHeartbeats 1000000
set_option linter.unusedVariables false
namespace Go.Proofs.Ytgifjphinkbcaaa
open Go Go.Ev

/-! ### RidgeFirst -/
noncomputable def c3 : Code := match Try.f3.body with | some c => c | _ => .skip
noncomputable def lp3a : Code := loopAt c3 [true, true, true, true, true, false, true, false]
noncomputable def s3a (ra : Int) (rb : Int) (rc : Int) (ps : List (List AV)) (t2 : Bool) (t3 : Int) (t5 : Int) (t6 : Int) : St :=
  { t := [(1, .rp [.int .i64, .int .i64, .int .i64, .sl 31] [.i .i64 ra, .i .i64 rb, .i .i64 rc, .rs 31 ps] 0), (2, .b t2), (3, .i .i64 t3), (5, .i .i64 t5), (6, .i .i64 t6)], m := [], nx := 0, nt := 86 }
structure S3a where
  t5 : Int
  t6 : Int
inductive T3a where
  | x0 (t2' : Bool) (t5 : Int) (t6 : Int)
  | x1 (t5 : Int) (t6 : Int)
noncomputable def stp3a (ra : Int) (rb : Int) (rc : Int) (ps : List (List AV)) (t2 : Bool) (t3 : Int) (t5 : Int) (t6 : Int) : Lp S3a T3a :=
  cond (decide (t6 < (↑ps.length : Int))) (cond (inb t6 ps.length) (cond (fI (ps.getD t6.toNat []) 2 != rb) (.go ⟨t5, IntKind.i64.wrap (t6 + 1)⟩) (cond (decide (fI (ps.getD t6.toNat []) 1 > ra)) (.go ⟨t5, IntKind.i64.wrap (t6 + 1)⟩) (cond (g20 (IntKind.i64.wrap (ra - fI (ps.getD t6.toNat []) 1)) (fI (ps.getD t6.toNat []) 3) rc ps) (cond (w20_1 (IntKind.i64.wrap (ra - fI (ps.getD t6.toNat []) 1)) (fI (ps.getD t6.toNat []) 3) rc ps != 0) (.out (.x0 false t5 t6)) (cond (decide (w20_0 (IntKind.i64.wrap (ra - fI (ps.getD t6.toNat []) 1)) (fI (ps.getD t6.toNat []) 3) rc ps < 0)) (.out (.x0 false t5 t6)) (cond (decide (w20_0 (IntKind.i64.wrap (ra - fI (ps.getD t6.toNat []) 1)) (fI (ps.getD t6.toNat []) 3) rc ps > t3)) (.out (.x0 false t5 t6)) (.go ⟨IntKind.i64.wrap (t5 + w20_0 (IntKind.i64.wrap (ra - fI (ps.getD t6.toNat []) 1)) (fI (ps.getD t6.toNat []) 3) rc ps), IntKind.i64.wrap (t6 + 1)⟩)))) (.bad)))) (.bad)) (.out (.x1 t5 t6))
noncomputable def o3a_0 (ra : Int) (rb : Int) (rc : Int) (ps : List (List AV)) (t2 : Bool) (t3 : Int) (t2' : Bool) (t5 : Int) (t6 : Int) : St :=
  { t := [(1, .rp [.int .i64, .int .i64, .int .i64, .sl 31] [.i .i64 ra, .i .i64 rb, .i .i64 rc, .rs 31 ps] 0), (2, .b t2'), (3, .i .i64 t3), (5, .i .i64 t5), (6, .i .i64 t6)], m := [], nx := 0, nt := 86 }
noncomputable def o3a_1 (ra : Int) (rb : Int) (rc : Int) (ps : List (List AV)) (t2 : Bool) (t3 : Int) (t5 : Int) (t6 : Int) : St :=
  { t := [(1, .rp [.int .i64, .int .i64, .int .i64, .sl 31] [.i .i64 ra, .i .i64 rb, .i .i64 rc, .rs 31 ps] 0), (2, .b t2), (3, .i .i64 t3), (5, .i .i64 t5), (6, .i .i64 t6)], m := [], nx := 0, nt := 86 }
noncomputable def ou3a (ra : Int) (rb : Int) (rc : Int) (ps : List (List AV)) (t2 : Bool) (t3 : Int) : T3a → Ex × St
  | .x0 t2' t5 t6 => (.ret, o3a_0 ra rb rc ps t2 t3 t2' t5 t6)
  | .x1 t5 t6 => (.ext 0, o3a_1 ra rb rc ps t2 t3 t5 t6)
noncomputable def r3a (ra : Int) (rb : Int) (rc : Int) (ps : List (List AV)) (t2 : Bool) (t3 : Int) (t5 : Int) (t6 : Int) : Option T3a := run (fun x => stp3a ra rb rc ps t2 t3 x.t5 x.t6) (⟨t5, t6⟩ : S3a)
noncomputable def i3a_0 (ra : Int) (rb : Int) (rc : Int) (ps : List (List AV)) (t2 : Bool) (t3 : Int) (t5 : Int) (t6 : Int) : Bool := match r3a ra rb rc ps t2 t3 t5 t6 with
  | some (.x0 _ _ _) => true
  | _ => false
noncomputable def v3a_0_t2' (ra : Int) (rb : Int) (rc : Int) (ps : List (List AV)) (t2 : Bool) (t3 : Int) (t5 : Int) (t6 : Int) : Bool := match r3a ra rb rc ps t2 t3 t5 t6 with
  | some (.x0 t2' _ _) => t2'
  | _ => default
noncomputable def v3a_0_t5 (ra : Int) (rb : Int) (rc : Int) (ps : List (List AV)) (t2 : Bool) (t3 : Int) (t5 : Int) (t6 : Int) : Int := match r3a ra rb rc ps t2 t3 t5 t6 with
  | some (.x0 _ t5 _) => t5
  | _ => default
noncomputable def v3a_0_t6 (ra : Int) (rb : Int) (rc : Int) (ps : List (List AV)) (t2 : Bool) (t3 : Int) (t5 : Int) (t6 : Int) : Int := match r3a ra rb rc ps t2 t3 t5 t6 with
  | some (.x0 _ _ t6) => t6
  | _ => default
noncomputable def i3a_1 (ra : Int) (rb : Int) (rc : Int) (ps : List (List AV)) (t2 : Bool) (t3 : Int) (t5 : Int) (t6 : Int) : Bool := match r3a ra rb rc ps t2 t3 t5 t6 with
  | some (.x1 _ _) => true
  | _ => false
noncomputable def v3a_1_t5 (ra : Int) (rb : Int) (rc : Int) (ps : List (List AV)) (t2 : Bool) (t3 : Int) (t5 : Int) (t6 : Int) : Int := match r3a ra rb rc ps t2 t3 t5 t6 with
  | some (.x1 t5 _) => t5
  | _ => default
noncomputable def v3a_1_t6 (ra : Int) (rb : Int) (rc : Int) (ps : List (List AV)) (t2 : Bool) (t3 : Int) (t5 : Int) (t6 : Int) : Int := match r3a ra rb rc ps t2 t3 t5 t6 with
  | some (.x1 _ t6) => t6
  | _ => default
noncomputable def l3a (st : St) : Option (List (Bool × Ex × St)) := match normW Try.prog [(1, none), (2, none), (3, none), (5, none), (6, none)] 0 st with
  | some ([.rp [.int .i64, .int .i64, .int .i64, .sl 31] [.i .i64 ra, .i .i64 rb, .i .i64 rc, .rs 31 ps] 0, .b t2, .i .i64 t3, .i .i64 t5, .i .i64 t6], [], 0, 86) => some [(i3a_0 ra rb rc ps t2 t3 t5 t6, .ret, o3a_0 ra rb rc ps t2 t3 (v3a_0_t2' ra rb rc ps t2 t3 t5 t6) (v3a_0_t5 ra rb rc ps t2 t3 t5 t6) (v3a_0_t6 ra rb rc ps t2 t3 t5 t6)), (i3a_1 ra rb rc ps t2 t3 t5 t6, .ext 0, o3a_1 ra rb rc ps t2 t3 (v3a_1_t5 ra rb rc ps t2 t3 t5 t6) (v3a_1_t6 ra rb rc ps t2 t3 t5 t6))]
  | _ => none
noncomputable def L3 : LSpec := fun p st => match p with
  | [false, true, false, true, true, true, true, true] => l3a st
  | _ => none
theorem is3a_0 (ra : Int) (rb : Int) (rc : Int) (ps : List (List AV)) (t2 : Bool) (t3 : Int) (t5 : Int) (t6 : Int) (h : i3a_0 ra rb rc ps t2 t3 t5 t6 = true) : r3a ra rb rc ps t2 t3 t5 t6 = some (.x0 (v3a_0_t2' ra rb rc ps t2 t3 t5 t6) (v3a_0_t5 ra rb rc ps t2 t3 t5 t6) (v3a_0_t6 ra rb rc ps t2 t3 t5 t6)) := by
  unfold i3a_0 at h
  unfold v3a_0_t2' v3a_0_t5 v3a_0_t6
  generalize r3a ra rb rc ps t2 t3 t5 t6 = r at h ⊢
  rcases r with _ | y
  · cases h
  · cases y <;> first | rfl | cases h
theorem is3a_1 (ra : Int) (rb : Int) (rc : Int) (ps : List (List AV)) (t2 : Bool) (t3 : Int) (t5 : Int) (t6 : Int) (h : i3a_1 ra rb rc ps t2 t3 t5 t6 = true) : r3a ra rb rc ps t2 t3 t5 t6 = some (.x1 (v3a_1_t5 ra rb rc ps t2 t3 t5 t6) (v3a_1_t6 ra rb rc ps t2 t3 t5 t6)) := by
  unfold i3a_1 at h
  unfold v3a_1_t5 v3a_1_t6
  generalize r3a ra rb rc ps t2 t3 t5 t6 = r at h ⊢
  rcases r with _ | y
  · cases h
  · cases y <;> first | rfl | cases h
theorem round3a (ra : Int) (rb : Int) (rc : Int) (ps : List (List AV)) (t2 : Bool) (t3 : Int) (t5 : Int) (t6 : Int) : round Try.prog SF (ro 3) L3 lp3a [false, true, false, true, true, true, true, true] [(1, none), (2, none), (3, none), (5, none), (6, none)] 0 (s3a ra rb rc ps t2 t3 t5 t6) =
    cond (decide (t6 < (↑ps.length : Int))) (cond (inb t6 ps.length) (cond (fI (ps.getD t6.toNat []) 2 != rb) (some (.nrm, s3a ra rb rc ps t2 t3 t5 (IntKind.i64.wrap (t6 + 1)))) (cond (decide (fI (ps.getD t6.toNat []) 1 > ra)) (some (.nrm, s3a ra rb rc ps t2 t3 t5 (IntKind.i64.wrap (t6 + 1)))) (cond (g20 (IntKind.i64.wrap (ra - fI (ps.getD t6.toNat []) 1)) (fI (ps.getD t6.toNat []) 3) rc ps) (cond (w20_1 (IntKind.i64.wrap (ra - fI (ps.getD t6.toNat []) 1)) (fI (ps.getD t6.toNat []) 3) rc ps != 0) (some (.ret, o3a_0 ra rb rc ps t2 t3 false t5 t6)) (cond (decide (w20_0 (IntKind.i64.wrap (ra - fI (ps.getD t6.toNat []) 1)) (fI (ps.getD t6.toNat []) 3) rc ps < 0)) (some (.ret, o3a_0 ra rb rc ps t2 t3 false t5 t6)) (cond (decide (w20_0 (IntKind.i64.wrap (ra - fI (ps.getD t6.toNat []) 1)) (fI (ps.getD t6.toNat []) 3) rc ps > t3)) (some (.ret, o3a_0 ra rb rc ps t2 t3 false t5 t6)) (some (.nrm, s3a ra rb rc ps t2 t3 (IntKind.i64.wrap (t5 + w20_0 (IntKind.i64.wrap (ra - fI (ps.getD t6.toNat []) 1)) (fI (ps.getD t6.toNat []) 3) rc ps)) (IntKind.i64.wrap (t6 + 1))))))) (none)))) (none)) (some (.ext 0, o3a_1 ra rb rc ps t2 t3 t5 t6)) := by kernel_rfl
theorem rnd3a (ra : Int) (rb : Int) (rc : Int) (ps : List (List AV)) (t2 : Bool) (t3 : Int) (x : S3a) : round Try.prog SF (ro 3) L3 lp3a [false, true, false, true, true, true, true, true] [(1, none), (2, none), (3, none), (5, none), (6, none)] 0 ((fun x => s3a ra rb rc ps t2 t3 x.t5 x.t6) x) = toR (fun x => s3a ra rb rc ps t2 t3 x.t5 x.t6) (ou3a ra rb rc ps t2 t3) (stp3a ra rb rc ps t2 t3 x.t5 x.t6) := by
  refine (round3a _ _ _ _ _ _ _ _ ).trans ?_
  unfold stp3a
  simp only [toR_cond]
  rfl
theorem lok3a {st : St} {outs : List (Bool × Ex × St)} {e : Ex} {s : St} (hl : l3a st = some outs) (hch : Chosen outs e s) :
    ∃ keep nb, 0 ≤ nb ∧ LB Try.prog SF (ro 3) L3 lp3a [false, true, false, true, true, true, true, true] keep nb st e s := by
  unfold l3a at hl
  split at hl
  · rename_i ra rb rc ps t2 t3 t5 t6 hno
    cases hl
    have hno := normW_norm hno
    refine ⟨_, _, ?_, .enter hno ?_⟩
    · decide
    have main := fun y h => LB_run (x := (⟨t5, t6⟩ : S3a)) (y := y) (nb := 0) (fun y => by cases y <;> simp [ou3a]) (rnd3a ra rb rc ps t2 t3) h
    obtain ⟨x, hx, hg, rfl, rfl⟩ := chosen_any hch
    simp only [List.mem_cons, List.not_mem_nil, or_false] at hx
    rcases hx with rfl | rfl
    · exact main _ (is3a_0 ra rb rc ps t2 t3 t5 t6 hg)
    · exact main _ (is3a_1 ra rb rc ps t2 t3 t5 t6 hg)
  · cases hl
theorem L3_ok (q : Pl) (c : Code) (hq : locate c3 q.reverse = some (.loop c)) (st : St) (outs : List (Bool × Ex × St)) (e : Ex) (s : St) (hl : L3 q st = some outs) (hch : Chosen outs e s) :
    ∃ keep nb, 0 ≤ nb ∧ LB Try.prog SF (ro 3) L3 c q keep nb st e s := by
  unfold L3 at hl
  split at hl
  · have : locate c3 ([false, true, false, true, true, true, true, true] : Pl).reverse = some (.loop lp3a) := by kernel_rfl
    rw [this] at hq
    cases hq
    exact lok3a hl hch
  · cases hl
theorem lok3 : LOK Try.prog SF (ro 3) L3 0 false c3 [] :=
  lok_lo L3_ok c3 [] false (locate_nil _) (by kernel_rfl)
noncomputable def t3 (ra rb rc : Int) (ps : List (List AV)) : Tr ((Bool)) :=
  .cn (g18 ra rb rc ps) (.cn (w18_0 ra rb rc ps) (.lf (true)) (.cn (g20 ra rb rc ps) (.cn (w20_1 ra rb rc ps != 0) (.lf (true)) (.cn (ra == 0) (.lf (true)) (.cn (i3a_0 ra rb rc ps false (w20_0 ra rb rc ps) 0 0) (.lf (v3a_0_t2' ra rb rc ps false (w20_0 ra rb rc ps) 0 0)) (.cn (i3a_1 ra rb rc ps false (w20_0 ra rb rc ps) 0 0) (.cn (v3a_1_t5 ra rb rc ps false (w20_0 ra rb rc ps) 0 0 == w20_0 ra rb rc ps) (.lf (true)) (.lf (false))) (.nn))))) (.nn))) (.nn)
noncomputable def g3 (ra rb rc : Int) (ps : List (List AV)) : Bool := (t3 ra rb rc ps).g
noncomputable def w3_0 (ra rb rc : Int) (ps : List (List AV)) : Bool := (t3 ra rb rc ps).val
theorem eq3 (ra rb rc : Int) (ps : List (List AV)) : evF Try.prog SF (ro 3) L3 Try.f3 [.agg [.i .i64 ra, .i .i64 rb, .i .i64 rc, .rs 31 ps]] = (t3 ra rb rc ps).opt (fun (x : (Bool)) => (.b x : AV)) := by kernel_rfl
theorem con3 (ra rb rc : Int) (ps : List (List AV)) (h : g3 ra rb rc ps = true) : Con Try.prog 3 [.agg [.i .i64 ra, .i .i64 rb, .i .i64 rc, .rs 31 ps]] [] (.b (w3_0 ra rb rc ps)) [] :=
  con_of SF_ok mixed Try.func3 (c := c3) rfl (names 3 _ Try.func3) lok3 ((eq3 ra rb rc ps).trans (Tr.sound _ _ h))
noncomputable def e3 (args : List AV) (rows : List Blk) : Option (Bool × AV × List Blk) := match args, rows with
  | [.agg [.i .i64 ra, .i .i64 rb, .i .i64 rc, .rs 31 ps]], [] => some (g3 ra rb rc ps, .b (w3_0 ra rb rc ps), [])
  | _, _ => none
theorem e3_ok (args : List AV) (rows : List Blk) (pre : Bool) (v : AV) (rows' : List Blk) (h : e3 args rows = some (pre, v, rows')) (hp : pre = true) : Con Try.prog 3 args rows v rows' := by
  unfold e3 at h
  split at h
  · cases h; exact con3 _ _ _ _ hp
  · cases h
-- SPEC 3
end Go.Proofs.Ytgifjphinkbcaaa

set_option maxRecDepth 100000
set_option linter.unusedVariables false
namespace Go.Proofs.Ytgifjphinkbcaaa
open Go Go.Ev
/-! ### Great -/
theorem g18_true (ra rb rc : Int) (ps : List (List AV)) : g18 ra rb rc ps = true := by
  have key : ∀ (n k : Nat) (t : Int), 31 - k = n → k ≤ 31 → ∃ y, run (fun x : S18a => stp18a ra rb rc ps false x.t3 x.t4) ⟨t, (k : Int)⟩ = some y := by
    intro n
    induction n with
    | zero =>
      intro k t hn hk
      have : k = 31 := by omega
      subst this
      have h2 : decide ((31 : Int) ≤ 30) = false := by decide
      cases hl : decide ((31 : Int) < (ps.length : Int)) with
      | true => exact ⟨_, run_out (by show stp18a ra rb rc ps false t 31 = _; unfold stp18a; rw [hl, h2]; rfl)⟩
      | false => exact ⟨_, run_out (by show stp18a ra rb rc ps false t 31 = _; unfold stp18a; rw [hl]; rfl)⟩
    | succ n ih =>
      intro k t hn hk
      cases hl : decide ((k : Int) < (ps.length : Int)) with
      | false => exact ⟨_, run_out (by show stp18a ra rb rc ps false t (k : Int) = _; unfold stp18a; rw [hl]; rfl)⟩
      | true =>
        have hk30 : decide ((k : Int) ≤ 30) = true := decide_eq_true (by omega)
        have hi : inb (k : Int) ps.length = true := by
          rw [inb_nat]
          have := of_decide_eq_true hl
          exact decide_eq_true (by omega)
        have ew : IntKind.i64.wrap ((k : Int) + 1) = ((k + 1 : Nat) : Int) := (wrap64 (by omega) (by omega)).trans (by omega)
        obtain ⟨y, hy⟩ := ih (k + 1) (IntKind.i64.wrap (t + ((fS (ps.getD (k : Int).toNat []) 0).size : Int))) (by omega) (by omega)
        refine ⟨y, (run_go ?_).trans hy⟩
        show stp18a ra rb rc ps false t (k : Int) = _
        unfold stp18a
        rw [hl, hk30, hi, ew]
        rfl
  obtain ⟨y, hy⟩ := key 31 0 0 rfl (by omega)
  have hy' : r18a ra rb rc ps false 0 0 = some y := hy
  unfold g18 t18 i18a_0
  rw [hy']
  cases y
  cases decide (ra > 300) <;> cases decide (ra ≤ 2000) <;> cases decide ((ps.length : Int) > 30) <;> rfl
theorem take_acc {ps : List (List AV)} {T : Nat → Nat → Int} {i h k : Nat} (hk : k < ps.length) : (ps.take (k + 1)).foldl (acc T i h) 0 = acc T i h ((ps.take k).foldl (acc T i h) 0) (ps.getD k []) := by
  have : ps.take (k + 1) = ps.take k ++ [ps.getD k []] := by
    rw [List.take_add_one, List.getElem?_eq_getElem hk]
    simp [List.getD_eq_getElem?_getD, List.getElem?_eq_getElem hk]
  rw [this, List.foldl_append]
  rfl
theorem take_le {ps : List (List AV)} {T : Nat → Nat → Int} {i h : Nat} (hT : okT T) (k : Nat) : (ps.take k).foldl (acc T i h) 0 ≤ ps.foldl (acc T i h) 0 ∧ 0 ≤ (ps.take k).foldl (acc T i h) 0 := by
  have h0 : (0 : Int) ≤ cap := by unfold cap; omega
  obtain ⟨h1, h2⟩ := acc_fold (i := i) (h := h) hT (ps.take k) h0
  have := (acc_fold (i := i) (h := h) hT (ps.drop k) h2).1
  rw [← List.foldl_append, List.take_append_drop] at this
  exact ⟨this, h1⟩
/-- The ways through the first piece. -/
theorem first_sum {ps : List (List AV)} {m b c : Nat} (hps : okPs ps) (hm : m + 1 ≤ 2000) (hb : b < 10) (hc : c < 10) (hw : ∀ n' b' : Nat, n' ≤ 2000 → b' ≤ 9 → w29_0 (n' : Int) (b' : Int) (c : Int) ps = 0) (hv : cnt ps c (m + 1) b ≤ 1000000000000000) :
    r3a ((m + 1 : Nat) : Int) (b : Int) (c : Int) ps false (cnt ps c (m + 1) b) 0 0 = some (.x1 (cnt ps c (m + 1) b) (ps.length : Int)) := by
  have hT : okT (fun k => cnt ps c k) := fun n h => cnt_ok ps c n h
  have hrec := cnt_rec (n := m) (c := c) (h := b) hps
  unfold r3a
  have := run_from0 (step := fun x : S3a => stp3a ((m + 1 : Nat) : Int) (b : Int) (c : Int) ps false (cnt ps c (m + 1) b) x.t5 x.t6) (y := .x1 (cnt ps c (m + 1) b) (ps.length : Int)) (m := ps.length)
    (fun k => ⟨(ps.take k).foldl (acc (fun k => cnt ps c k) (m + 1) b) 0, (k : Int)⟩) (fun k hk => ?_) ?_
  · exact this
  · have hl := hps.1
    have hm' : ps.getD k [] ∈ ps := by
      simp only [List.getD_eq_getElem?_getD, List.getElem?_eq_getElem hk, Option.getD_some]
      exact List.getElem_mem hk
    obtain ⟨b1, b2, b3, b4, b5, b6⟩ := hps.2 _ hm'
    obtain ⟨t1, t2⟩ := take_le (ps := ps) (i := m + 1) (h := b) hT k
    obtain ⟨t3, _⟩ := take_le (ps := ps) (i := m + 1) (h := b) hT (k + 1)
    rw [← hrec] at t1 t3
    rw [take_acc hk] at t3
    show stp3a ((m + 1 : Nat) : Int) (b : Int) (c : Int) ps false (cnt ps c (m + 1) b) ((ps.take k).foldl (acc (fun k => cnt ps c k) (m + 1) b) 0) (k : Int) = .go ⟨(ps.take (k + 1)).foldl (acc (fun k => cnt ps c k) (m + 1) b) 0, ((k + 1 : Nat) : Int)⟩
    rw [take_acc hk]
    generalize (ps.take k).foldl (acc (fun k => cnt ps c k) (m + 1) b) 0 = a at t1 t2 t3 ⊢
    generalize hp : ps.getD k [] = p at *
    have e1 : decide ((k : Int) < (ps.length : Int)) = true := decide_eq_true (by omega)
    have e2 : inb (k : Int) ps.length = true := by rw [inb_nat]; exact decide_eq_true hk
    have ew : IntKind.i64.wrap ((k : Int) + 1) = ((k + 1 : Nat) : Int) := (wrap64 (by omega) (by omega)).trans (by omega)
    unfold stp3a
    simp only [e1, e2, cond_true, Int.toNat_natCast, hp, ew]
    by_cases hA : fI p 2 = (b : Int)
    · have hA' : pA p = b := by unfold pA; omega
      have x1 : (fI p 2 != (b : Int)) = false := by simp [hA]
      simp only [x1, cond_false]
      by_cases hL : fI p 1 > ((m + 1 : Nat) : Int)
      · have x2 : decide (fI p 1 > ((m + 1 : Nat) : Int)) = true := decide_eq_true hL
        simp only [x2, cond_true]
        have : acc (fun k => cnt ps c k) (m + 1) b a p = a := by
          unfold acc
          rw [if_neg]
          rintro ⟨_, h⟩
          unfold pL at h
          omega
        rw [this]
      · have x2 : decide (fI p 1 > ((m + 1 : Nat) : Int)) = false := decide_eq_false hL
        simp only [x2, cond_false]
        have hLn : pL p ≤ m + 1 := by unfold pL; omega
        have hacc : acc (fun k => cnt ps c k) (m + 1) b a p = bmin (a + cnt ps c (m + 1 - pL p) (pB p)) cap := by
          unfold acc
          rw [if_pos ⟨hA', hLn⟩]
        rw [hacc] at t3 ⊢
        have hx := cnt_ok ps c (m + 1 - pL p) (pB p)
        have hb' : bmin (a + cnt ps c (m + 1 - pL p) (pB p)) cap = a + cnt ps c (m + 1 - pL p) (pB p) := by
          rw [bmin_le] at t3 ⊢
          unfold cap at *
          split at t3
          · rw [if_pos (by assumption)]
          · omega
        rw [hb'] at t3 ⊢
        have e3 : IntKind.i64.wrap (((m + 1 : Nat) : Int) - fI p 1) = ((m + 1 - pL p : Nat) : Int) := (wrap64 (by omega) (by omega)).trans (by unfold pL at *; omega)
        have e4 : fI p 3 = ((pB p : Nat) : Int) := by unfold pB; omega
        have hB : pB p < 10 := by unfold pB; omega
        obtain ⟨g1, g2⟩ := ways_val (n := m + 1 - pL p) (b := pB p) (c := c) hps (by omega) hB hc (hw _ _ (by omega) (by omega))
        rw [e3, e4]
        change tabs ps c _ _ _ > _ ∧ _ ∨ _ at g2
        have hc' : tabs ps c (m + 1 - pL p) (m + 1 - pL p) (pB p) = cnt ps c (m + 1 - pL p) (pB p) := rfl
        rw [hc'] at g2
        rcases g2 with ⟨h1, _⟩ | ⟨_, h2, h3⟩
        · omega
        · have y1 : ((0 : Int) != 0) = false := by decide
          have y2 : decide (cnt ps c (m + 1 - pL p) (pB p) < 0) = false := decide_eq_false (by omega)
          have y3 : decide (cnt ps c (m + 1 - pL p) (pB p) > cnt ps c (m + 1) b) = false := decide_eq_false (by omega)
          simp only [g1, h2, h3, y1, y2, y3, cond_true, cond_false]
          rw [wrap64 (by omega) (by omega)]
    · have x1 : (fI p 2 != (b : Int)) = true := by simpa using hA
      simp only [x1, cond_true]
      have : acc (fun k => cnt ps c k) (m + 1) b a p = a := by
        unfold acc
        rw [if_neg]
        rintro ⟨h, _⟩
        unfold pA at h
        omega
      rw [this]
  · show stp3a ((m + 1 : Nat) : Int) (b : Int) (c : Int) ps false (cnt ps c (m + 1) b) ((ps.take ps.length).foldl (acc (fun k => cnt ps c k) (m + 1) b) 0) (ps.length : Int) = _
    rw [List.take_length, ← hrec]
    unfold stp3a
    have e1 : decide ((ps.length : Int) < (ps.length : Int)) = false := decide_eq_false (by omega)
    rw [e1]; rfl
theorem first_law (ra rb rc : Int) (ps : List (List AV)) : g3 ra rb rc ps = true ∧ w3_0 ra rb rc ps = true := by
  cases hg : w18_0 ra rb rc ps with
  | true =>
    unfold g3 w3_0 t3
    simp only [g18_true, hg, Tr.g, Tr.val, cond_true, and_self]
  | false =>
  rcases check_err ra rb rc ps with he | ⟨hF, hw⟩
  · obtain ⟨g1, g2⟩ := ways_err he
    have hb : (w20_1 ra rb rc ps != 0) = true := by simpa using g2
    unfold g3 w3_0 t3
    simp only [g18_true, hg, g1, hb, Tr.g, Tr.val, cond_true, cond_false, and_self]
  · obtain ⟨⟨a1, a2⟩, ⟨b1, b2⟩, ⟨c1, c2⟩, hps⟩ := hF
    obtain ⟨n, rfl⟩ : ∃ n : Nat, ra = (n : Int) := ⟨ra.toNat, by omega⟩
    obtain ⟨b, rfl⟩ : ∃ b : Nat, rb = (b : Int) := ⟨rb.toNat, by omega⟩
    obtain ⟨c, rfl⟩ : ∃ c : Nat, rc = (c : Int) := ⟨rc.toNat, by omega⟩
    obtain ⟨g1, g2⟩ := ways_val (n := n) (b := b) (c := c) hps (by omega) (by omega) (by omega) (hw _ _ a1 a2 b1 b2)
    rcases g2 with ⟨_, h3, _⟩ | ⟨hv, h3, h4⟩
    · have hb : (w20_1 (n : Int) (b : Int) (c : Int) ps != 0) = true := by rw [h3]; decide
      unfold g3 w3_0 t3
      simp only [g18_true, hg, g1, hb, Tr.g, Tr.val, cond_true, cond_false, and_self]
    · have hb : (w20_1 (n : Int) (b : Int) (c : Int) ps != 0) = false := by rw [h3]; decide
      cases n with
      | zero =>
        have h0 : (((0 : Nat) : Int) == 0) = true := by decide
        unfold g3 w3_0 t3
        simp only [g18_true, hg, g1, hb, h0, Tr.g, Tr.val, cond_true, cond_false, and_self]
      | succ m =>
        have h0 : (((m + 1 : Nat) : Int) == 0) = false := by simp; omega
        have hs := first_sum (m := m) (b := b) (c := c) hps (by omega) (by omega) (by omega) (fun n' b' h1 h2 => hw _ _ (by omega) (by omega) (by omega) (by omega)) hv
        have i0 : i3a_0 ((m + 1 : Nat) : Int) (b : Int) (c : Int) ps false (cnt ps c (m + 1) b) 0 0 = false := by
          unfold i3a_0; rw [hs]
        have i1 : i3a_1 ((m + 1 : Nat) : Int) (b : Int) (c : Int) ps false (cnt ps c (m + 1) b) 0 0 = true := by
          unfold i3a_1; rw [hs]
        have v1 : v3a_1_t5 ((m + 1 : Nat) : Int) (b : Int) (c : Int) ps false (cnt ps c (m + 1) b) 0 0 = cnt ps c (m + 1) b := by
          unfold v3a_1_t5; rw [hs]
        have h4' : w20_0 ((m + 1 : Nat) : Int) (b : Int) (c : Int) ps = cnt ps c (m + 1) b := h4
        have hq : (cnt ps c (m + 1) b == cnt ps c (m + 1) b) = true := by simp
        unfold g3 w3_0 t3
        simp only [g18_true, hg, g1, hb, h0, h4', i0, i1, v1, hq, Tr.g, Tr.val, cond_true, cond_false, and_self]
end Go.Proofs.Ytgifjphinkbcaaa

set_option maxRecDepth 100000
set_option linter.unusedVariables false
namespace Go.Proofs.Ytgifjphinkbcaaa
open Go Go.Ev
/-! ### Ways through the first pieces; the row with a number -/
def wd (ps : List (List AV)) (k : Nat) : Nat := pL (ps.getD k [])
def lf (ps : List (List AV)) (k : Nat) : Nat := pA (ps.getD k [])
def rt (ps : List (List AV)) (k : Nat) : Nat := pB (ps.getD k [])
def sm (ps : List (List AV)) (c n h k : Nat) : Int := (ps.take k).foldl (acc (fun m => cnt ps c m) n h) 0
theorem okC (ps : List (List AV)) (c : Nat) : okT (fun m => cnt ps c m) := fun n h => cnt_ok ps c n h
theorem sm_zero (ps : List (List AV)) (c n h : Nat) : sm ps c n h 0 = 0 := rfl
theorem sm_len {ps : List (List AV)} {c n h : Nat} (hps : okPs ps) (hn : 0 < n) : sm ps c n h ps.length = cnt ps c n h := by
  obtain ⟨m, rfl⟩ : ∃ m, n = m + 1 := ⟨n - 1, by omega⟩
  unfold sm
  rw [List.take_length, cnt_rec hps]
theorem sm_le {ps : List (List AV)} {c n h : Nat} (hps : okPs ps) (hn : 0 < n) (k : Nat) : 0 ≤ sm ps c n h k ∧ sm ps c n h k ≤ cnt ps c n h := by
  obtain ⟨h1, h2⟩ := take_le (ps := ps) (i := n) (h := h) (okC ps c) k
  refine ⟨h2, ?_⟩
  have := sm_len (c := c) (h := h) hps hn
  unfold sm at this ⊢
  rw [List.take_length] at this
  rw [← this]
  exact h1
theorem sm_succ {ps : List (List AV)} {c n h k : Nat} (hps : okPs ps) (hn : 0 < n) (hk : k < ps.length) (hs : cnt ps c n h ≤ 1000000000000000) :
    sm ps c n h (k + 1) = sm ps c n h k + (if lf ps k = h ∧ wd ps k ≤ n then cnt ps c (n - wd ps k) (rt ps k) else 0) := by
  have h1 := (sm_le (c := c) (h := h) hps hn (k + 1)).2
  have h2 := (sm_le (c := c) (h := h) hps hn k)
  have ht : sm ps c n h (k + 1) = acc (fun m => cnt ps c m) n h (sm ps c n h k) (ps.getD k []) := take_acc hk
  rw [ht] at h1 ⊢
  unfold acc at h1 ⊢
  have e : (pA (ps.getD k []) = h ∧ pL (ps.getD k []) ≤ n) = (lf ps k = h ∧ wd ps k ≤ n) := rfl
  simp only [e] at h1 ⊢
  split
  · rename_i hc
    rw [if_pos hc] at h1
    have hx := cnt_ok ps c (n - wd ps k) (rt ps k)
    change bmin (sm ps c n h k + cnt ps c (n - wd ps k) (rt ps k)) cap = _
    change bmin (sm ps c n h k + cnt ps c (n - wd ps k) (rt ps k)) cap ≤ _ at h1
    rw [bmin_le] at h1 ⊢
    unfold cap at *
    split at h1
    · rw [if_pos (by assumption)]
    · omega
  · omega
theorem sm_mono {ps : List (List AV)} {c n h : Nat} (hps : okPs ps) (hn : 0 < n) (hs : cnt ps c n h ≤ 1000000000000000) : ∀ {i j : Nat}, i ≤ j → j ≤ ps.length → sm ps c n h i ≤ sm ps c n h j
  | i, 0, h1, h2 => by
    have : i = 0 := by omega
    subst this; exact Int.le_refl _
  | i, j + 1, h1, h2 => by
    rcases Nat.eq_or_lt_of_le h1 with e | e
    · rw [e]; exact Int.le_refl _
    · refine Int.le_trans (sm_mono hps hn hs (Nat.le_of_lt_succ e) (by omega)) ?_
      rw [sm_succ hps hn (by omega) hs]
      have hx := cnt_ok ps c (n - wd ps j) (rt ps j)
      split <;> omega
theorem pc_ok {ps : List (List AV)} (hps : okPs ps) {k : Nat} (hk : k < ps.length) : okPc (ps.getD k []) := hps.2 _ (drop_mem [] hk)
theorem pc_nat {ps : List (List AV)} (hps : okPs ps) {k : Nat} (hk : k < ps.length) : fI (ps.getD k []) 1 = (wd ps k : Int) ∧ fI (ps.getD k []) 2 = (lf ps k : Int) ∧ fI (ps.getD k []) 3 = (rt ps k : Int) ∧ 1 ≤ wd ps k ∧ wd ps k ≤ 2000 ∧ lf ps k < 10 ∧ rt ps k < 10 := by
  obtain ⟨b1, b2, b3, b4, b5, b6⟩ := pc_ok hps hk
  unfold wd lf rt pL pA pB
  omega
/-- A piece that has the x-th way. -/
theorem sm_fits {ps : List (List AV)} {c n h k : Nat} {x : Int} (hps : okPs ps) (hn : 0 < n) (hk : k < ps.length) (hs : cnt ps c n h ≤ 1000000000000000) (h1 : sm ps c n h k ≤ x) (h2 : x < sm ps c n h (k + 1)) :
    (lf ps k = h ∧ wd ps k ≤ n) ∧ 0 ≤ x - sm ps c n h k ∧ x - sm ps c n h k < cnt ps c (n - wd ps k) (rt ps k) ∧ cnt ps c (n - wd ps k) (rt ps k) ≤ 1000000000000000 := by
  rw [sm_succ hps hn hk hs] at h2
  split at h2
  · rename_i hc
    refine ⟨hc, by omega, by omega, ?_⟩
    have h3 := (sm_le (c := c) (h := h) hps hn (k + 1)).2
    rw [sm_succ hps hn hk hs, if_pos hc] at h3
    have := (sm_le (c := c) (h := h) hps hn k).1
    omega
  · omega
inductive NthR (ps : List (List AV)) (c : Nat) : Nat → Nat → Int → List Nat → Prop
  | nil : NthR ps c 0 c 0 []
  | cons {n h i : Nat} {x : Int} {row : List Nat} : 0 < n → i < ps.length → sm ps c n h i ≤ x → x < sm ps c n h (i + 1) → NthR ps c (n - wd ps i) (rt ps i) (x - sm ps c n h i) row → NthR ps c n h x (i :: row)
theorem sm_uniq {ps : List (List AV)} {c n h i j : Nat} {x : Int} (hps : okPs ps) (hn : 0 < n) (hs : cnt ps c n h ≤ 1000000000000000) (hi : i < ps.length) (hj : j < ps.length) (h1 : sm ps c n h i ≤ x) (h2 : x < sm ps c n h (i + 1)) (h3 : sm ps c n h j ≤ x) (h4 : x < sm ps c n h (j + 1)) : i = j := by
  rcases Nat.lt_trichotomy i j with e | e | e
  · have := sm_mono (c := c) (h := h) hps hn hs (show i + 1 ≤ j from e) (by omega)
    omega
  · exact e
  · have := sm_mono (c := c) (h := h) hps hn hs (show j + 1 ≤ i from e) (by omega)
    omega
theorem NthR_uniq {ps : List (List AV)} {c n h : Nat} {x : Int} {row row' : List Nat} (hps : okPs ps) (h1 : NthR ps c n h x row) : cnt ps c n h ≤ 1000000000000000 → NthR ps c n h x row' → row = row' := by
  induction h1 generalizing row' with
  | nil =>
    intro hs h2
    cases h2 with
    | nil => rfl
    | cons h0 _ _ _ _ => omega
  | cons h0 hi ha hb hr ih =>
    intro hs h2
    cases h2 with
    | nil => omega
    | cons g0 gi ga gb gr =>
      have := sm_uniq hps h0 hs hi gi ha hb ga gb
      subst this
      obtain ⟨_, _, _, h4⟩ := sm_fits hps h0 hi hs ha hb
      rw [ih h4 gr]
def rowI (row : List Nat) : List Int := row.map fun (i : Nat) => (i : Int)
theorem nums_rowAV (row : List Nat) : nums (rowAV row) = rowI row := by
  unfold nums rowAV rowI
  rw [List.map_map]
  rfl
theorem cnt_zero (ps : List (List AV)) (c h : Nat) : cnt ps c 0 h = if h = c then 1 else 0 := rfl
/-- The table holds the counts. -/
theorem tab_cnt {ps : List (List AV)} {c N n h : Nat} (hn : n ≤ N) (hh : h < 10) : g51 (tab (N + 1) (tabs ps c N)) (n : Int) (h : Int) = true ∧ w51_0 (tab (N + 1) (tabs ps c N)) (n : Int) (h : Int) = cnt ps c n h := by
  obtain ⟨h1, h2⟩ := of_tab (N := N + 1) (n := n) (b := h) (T := tabs ps c N) (by omega) hh
  refine ⟨h1, h2.trans ?_⟩
  rw [tabs_stable ps c hn]
  rfl
theorem tab_toI {ps : List (List AV)} {c N n h : Nat} (hn : n ≤ N) (hh : h < 10) : toI (((tab (N + 1) (tabs ps c N)).getD n []).getD h AV.u) = cnt ps c n h := by
  rw [tab_get (by omega), tabR_get hh, tabs_stable ps c hn]
  rfl
end Go.Proofs.Ytgifjphinkbcaaa

set_option maxRecDepth 100000
set_option linter.unusedVariables false
namespace Go.Proofs.Ytgifjphinkbcaaa
open Go Go.Ev

/-! ### Nth -/
noncomputable def c40 : Code := match Try.f40.body with | some c => c | _ => .skip
noncomputable def lp40a : Code := loopAt c40 [true, true, true, true, true, true, false, false]
noncomputable def s40a (x : Int) (ra : Int) (rb : Int) (rc : Int) (ps : List (List AV)) (t5 : Int) (t6 : List (List AV)) (t9 : List (List AV)) (m14_0 : Int) (m14_1 : Int) : St :=
  { t := [(1, .i .i64 x), (2, .rp [.int .i64, .int .i64, .int .i64, .sl 31] [.i .i64 ra, .i .i64 rb, .i .i64 rc, .rs 31 ps] 0), (4, .nl), (5, .i .i64 t5), (6, .rs 91 t6), (8, .p 14 0 0), (9, .gv 15 3 t9)], m := [(15, .fr 3), (0, .dead), (1, .dead), (2, .dead), (3, .dead), (4, .dead), (5, .dead), (6, .dead), (7, .dead), (8, .dead), (9, .dead), (10, .dead), (11, .dead), (12, .dead), (13, .dead), (14, .row 78 [[.i .i64 m14_0, .i .i64 m14_1]])], nx := 16, nt := 67 }
noncomputable def lp40aa : Code := loopAt c40 [true, true, true, true, true, true, false, false, false, true, false, true, false]
noncomputable def s40aa (x : Int) (ra : Int) (rb : Int) (rc : Int) (ps : List (List AV)) (t5 : Int) (t6 : List (List AV)) (t9 : List (List AV)) (t36 : List (List AV)) (t37 : Int) (t38 : Int) (m14_0 : Int) (m14_1 : Int) : St :=
  { t := [(1, .i .i64 x), (2, .rp [.int .i64, .int .i64, .int .i64, .sl 31] [.i .i64 ra, .i .i64 rb, .i .i64 rc, .rs 31 ps] 0), (4, .nl), (5, .i .i64 t5), (6, .rs 91 t6), (8, .p 14 0 0), (9, .gv 15 3 t9), (36, .rs 31 t36), (37, .i .i64 t37), (38, .i .i64 t38)], m := [(15, .fr 3), (0, .dead), (1, .dead), (2, .dead), (3, .dead), (4, .dead), (5, .dead), (6, .dead), (7, .dead), (8, .dead), (9, .dead), (10, .dead), (11, .dead), (12, .dead), (13, .dead), (14, .row 78 [[.i .i64 m14_0, .i .i64 m14_1]])], nx := 16, nt := 67 }
structure S40aa where
  x : Int
  t38 : Int
inductive T40aa where
  | x0 (t1 : Int) (t9' : List (List AV)) (t38 : Int) (m14_0' : Int) (m14_1' : Int)
noncomputable def stp40aa (ra : Int) (rb : Int) (rc : Int) (ps : List (List AV)) (t5 : Int) (t6 : List (List AV)) (t9 : List (List AV)) (t36 : List (List AV)) (t37 : Int) (m14_0 : Int) (m14_1 : Int) (x : Int) (t38 : Int) : Lp S40aa T40aa :=
  cond (decide (t38 < t37)) (cond (inb t38 t36.length) (cond (g71 m14_0 m14_1 (fS (t36.getD t38.toNat []) 0) (fI (t36.getD t38.toNat []) 1) (fI (t36.getD t38.toNat []) 2) (fI (t36.getD t38.toNat []) 3) (fI (t36.getD t38.toNat []) 4)) (cond (!w71_2 m14_0 m14_1 (fS (t36.getD t38.toNat []) 0) (fI (t36.getD t38.toNat []) 1) (fI (t36.getD t38.toNat []) 2) (fI (t36.getD t38.toNat []) 3) (fI (t36.getD t38.toNat []) 4)) (.go ⟨x, IntKind.i64.wrap (t38 + 1)⟩) (cond (g51 t6 (w71_0 m14_0 m14_1 (fS (t36.getD t38.toNat []) 0) (fI (t36.getD t38.toNat []) 1) (fI (t36.getD t38.toNat []) 2) (fI (t36.getD t38.toNat []) 3) (fI (t36.getD t38.toNat []) 4)) (w71_1 m14_0 m14_1 (fS (t36.getD t38.toNat []) 0) (fI (t36.getD t38.toNat []) 1) (fI (t36.getD t38.toNat []) 2) (fI (t36.getD t38.toNat []) 3) (fI (t36.getD t38.toNat []) 4))) (cond (decide (x ≥ w51_0 t6 (w71_0 m14_0 m14_1 (fS (t36.getD t38.toNat []) 0) (fI (t36.getD t38.toNat []) 1) (fI (t36.getD t38.toNat []) 2) (fI (t36.getD t38.toNat []) 3) (fI (t36.getD t38.toNat []) 4)) (w71_1 m14_0 m14_1 (fS (t36.getD t38.toNat []) 0) (fI (t36.getD t38.toNat []) 1) (fI (t36.getD t38.toNat []) 2) (fI (t36.getD t38.toNat []) 3) (fI (t36.getD t38.toNat []) 4)))) (.go ⟨IntKind.i64.wrap (x - w51_0 t6 (w71_0 m14_0 m14_1 (fS (t36.getD t38.toNat []) 0) (fI (t36.getD t38.toNat []) 1) (fI (t36.getD t38.toNat []) 2) (fI (t36.getD t38.toNat []) 3) (fI (t36.getD t38.toNat []) 4)) (w71_1 m14_0 m14_1 (fS (t36.getD t38.toNat []) 0) (fI (t36.getD t38.toNat []) 1) (fI (t36.getD t38.toNat []) 2) (fI (t36.getD t38.toNat []) 3) (fI (t36.getD t38.toNat []) 4))), IntKind.i64.wrap (t38 + 1)⟩) (cond ((t9.length + [[AV.i IntKind.i64 t38]].length).ble 9223372036854775807 && true) (cond (((t9.length + [[AV.i IntKind.i64 t38]].length) * 8).ble 140737488355328) (.out (.x0 x (t9 ++ [[AV.i IntKind.i64 t38]]) t38 (w71_0 m14_0 m14_1 (fS (t36.getD t38.toNat []) 0) (fI (t36.getD t38.toNat []) 1) (fI (t36.getD t38.toNat []) 2) (fI (t36.getD t38.toNat []) 3) (fI (t36.getD t38.toNat []) 4)) (w71_1 m14_0 m14_1 (fS (t36.getD t38.toNat []) 0) (fI (t36.getD t38.toNat []) 1) (fI (t36.getD t38.toNat []) 2) (fI (t36.getD t38.toNat []) 3) (fI (t36.getD t38.toNat []) 4)))) (.bad)) (.bad))) (.bad))) (.bad)) (.bad)) (.out (.x0 x t9 t38 m14_0 m14_1))
noncomputable def o40aa_0 (ra : Int) (rb : Int) (rc : Int) (ps : List (List AV)) (t5 : Int) (t6 : List (List AV)) (t9 : List (List AV)) (t36 : List (List AV)) (t37 : Int) (m14_0 : Int) (m14_1 : Int) (t1 : Int) (t9' : List (List AV)) (t38 : Int) (m14_0' : Int) (m14_1' : Int) : St :=
  { t := [(1, .i .i64 t1), (2, .rp [.int .i64, .int .i64, .int .i64, .sl 31] [.i .i64 ra, .i .i64 rb, .i .i64 rc, .rs 31 ps] 0), (4, .nl), (5, .i .i64 t5), (6, .rs 91 t6), (8, .p 14 0 0), (9, .gv 15 3 t9'), (36, .rs 31 t36), (37, .i .i64 t37), (38, .i .i64 t38)], m := [(15, .fr 3), (0, .dead), (1, .dead), (2, .dead), (3, .dead), (4, .dead), (5, .dead), (6, .dead), (7, .dead), (8, .dead), (9, .dead), (10, .dead), (11, .dead), (12, .dead), (13, .dead), (14, .row 78 [[.i .i64 m14_0', .i .i64 m14_1']])], nx := 16, nt := 67 }
noncomputable def ou40aa (ra : Int) (rb : Int) (rc : Int) (ps : List (List AV)) (t5 : Int) (t6 : List (List AV)) (t9 : List (List AV)) (t36 : List (List AV)) (t37 : Int) (m14_0 : Int) (m14_1 : Int) : T40aa → Ex × St
  | .x0 t1 t9' t38 m14_0' m14_1' => (.ext 2, o40aa_0 ra rb rc ps t5 t6 t9 t36 t37 m14_0 m14_1 t1 t9' t38 m14_0' m14_1')
noncomputable def r40aa (ra : Int) (rb : Int) (rc : Int) (ps : List (List AV)) (t5 : Int) (t6 : List (List AV)) (t9 : List (List AV)) (t36 : List (List AV)) (t37 : Int) (m14_0 : Int) (m14_1 : Int) (x : Int) (t38 : Int) : Option T40aa := run (fun x => stp40aa ra rb rc ps t5 t6 t9 t36 t37 m14_0 m14_1 x.x x.t38) (⟨x, t38⟩ : S40aa)
noncomputable def i40aa_0 (ra : Int) (rb : Int) (rc : Int) (ps : List (List AV)) (t5 : Int) (t6 : List (List AV)) (t9 : List (List AV)) (t36 : List (List AV)) (t37 : Int) (m14_0 : Int) (m14_1 : Int) (x : Int) (t38 : Int) : Bool := match r40aa ra rb rc ps t5 t6 t9 t36 t37 m14_0 m14_1 x t38 with
  | some (.x0 _ _ _ _ _) => true
  | _ => false
noncomputable def v40aa_0_t1 (ra : Int) (rb : Int) (rc : Int) (ps : List (List AV)) (t5 : Int) (t6 : List (List AV)) (t9 : List (List AV)) (t36 : List (List AV)) (t37 : Int) (m14_0 : Int) (m14_1 : Int) (x : Int) (t38 : Int) : Int := match r40aa ra rb rc ps t5 t6 t9 t36 t37 m14_0 m14_1 x t38 with
  | some (.x0 t1 _ _ _ _) => t1
  | _ => default
noncomputable def v40aa_0_t9' (ra : Int) (rb : Int) (rc : Int) (ps : List (List AV)) (t5 : Int) (t6 : List (List AV)) (t9 : List (List AV)) (t36 : List (List AV)) (t37 : Int) (m14_0 : Int) (m14_1 : Int) (x : Int) (t38 : Int) : List (List AV) := match r40aa ra rb rc ps t5 t6 t9 t36 t37 m14_0 m14_1 x t38 with
  | some (.x0 _ t9' _ _ _) => t9'
  | _ => default
noncomputable def v40aa_0_t38 (ra : Int) (rb : Int) (rc : Int) (ps : List (List AV)) (t5 : Int) (t6 : List (List AV)) (t9 : List (List AV)) (t36 : List (List AV)) (t37 : Int) (m14_0 : Int) (m14_1 : Int) (x : Int) (t38 : Int) : Int := match r40aa ra rb rc ps t5 t6 t9 t36 t37 m14_0 m14_1 x t38 with
  | some (.x0 _ _ t38 _ _) => t38
  | _ => default
noncomputable def v40aa_0_m14_0' (ra : Int) (rb : Int) (rc : Int) (ps : List (List AV)) (t5 : Int) (t6 : List (List AV)) (t9 : List (List AV)) (t36 : List (List AV)) (t37 : Int) (m14_0 : Int) (m14_1 : Int) (x : Int) (t38 : Int) : Int := match r40aa ra rb rc ps t5 t6 t9 t36 t37 m14_0 m14_1 x t38 with
  | some (.x0 _ _ _ m14_0' _) => m14_0'
  | _ => default
noncomputable def v40aa_0_m14_1' (ra : Int) (rb : Int) (rc : Int) (ps : List (List AV)) (t5 : Int) (t6 : List (List AV)) (t9 : List (List AV)) (t36 : List (List AV)) (t37 : Int) (m14_0 : Int) (m14_1 : Int) (x : Int) (t38 : Int) : Int := match r40aa ra rb rc ps t5 t6 t9 t36 t37 m14_0 m14_1 x t38 with
  | some (.x0 _ _ _ _ m14_1') => m14_1'
  | _ => default
noncomputable def l40aa (st : St) : Option (List (Bool × Ex × St)) := match normW Try.prog [(1, none), (2, none), (4, none), (5, none), (6, none), (8, none), (9, some 3), (36, none), (37, none), (38, none)] 15 st with
  | some ([.i .i64 x, .rp [.int .i64, .int .i64, .int .i64, .sl 31] [.i .i64 ra, .i .i64 rb, .i .i64 rc, .rs 31 ps] 0, .nl, .i .i64 t5, .rs 91 t6, .p 14 0 0, .gv 15 3 t9, .rs 31 t36, .i .i64 t37, .i .i64 t38], [(15, .fr 3), (0, .dead), (1, .dead), (2, .dead), (3, .dead), (4, .dead), (5, .dead), (6, .dead), (7, .dead), (8, .dead), (9, .dead), (10, .dead), (11, .dead), (12, .dead), (13, .dead), (14, .row 78 [[.i .i64 m14_0, .i .i64 m14_1]])], 16, 67) => some [(i40aa_0 ra rb rc ps t5 t6 t9 t36 t37 m14_0 m14_1 x t38, .ext 2, o40aa_0 ra rb rc ps t5 t6 t9 t36 t37 m14_0 m14_1 (v40aa_0_t1 ra rb rc ps t5 t6 t9 t36 t37 m14_0 m14_1 x t38) (v40aa_0_t9' ra rb rc ps t5 t6 t9 t36 t37 m14_0 m14_1 x t38) (v40aa_0_t38 ra rb rc ps t5 t6 t9 t36 t37 m14_0 m14_1 x t38) (v40aa_0_m14_0' ra rb rc ps t5 t6 t9 t36 t37 m14_0 m14_1 x t38) (v40aa_0_m14_1' ra rb rc ps t5 t6 t9 t36 t37 m14_0 m14_1 x t38))]
  | _ => none
structure S40a where
  x : Int
  t9 : List (List AV)
  m14_0 : Int
  m14_1 : Int
inductive T40a where
  | x0 (t1 : Int) (t9 : List (List AV)) (m14_0 : Int) (m14_1 : Int)
noncomputable def stp40a (ra : Int) (rb : Int) (rc : Int) (ps : List (List AV)) (t5 : Int) (t6 : List (List AV)) (x : Int) (t9 : List (List AV)) (m14_0 : Int) (m14_1 : Int) : Lp S40a T40a :=
  cond (decide (m14_0 > 0)) (cond (i40aa_0 ra rb rc ps t5 t6 t9 ps (↑ps.length : Int) m14_0 m14_1 x 0) (.go ⟨v40aa_0_t1 ra rb rc ps t5 t6 t9 ps (↑ps.length : Int) m14_0 m14_1 x 0, v40aa_0_t9' ra rb rc ps t5 t6 t9 ps (↑ps.length : Int) m14_0 m14_1 x 0, v40aa_0_m14_0' ra rb rc ps t5 t6 t9 ps (↑ps.length : Int) m14_0 m14_1 x 0, v40aa_0_m14_1' ra rb rc ps t5 t6 t9 ps (↑ps.length : Int) m14_0 m14_1 x 0⟩) (.bad)) (.out (.x0 x t9 m14_0 m14_1))
noncomputable def o40a_0 (ra : Int) (rb : Int) (rc : Int) (ps : List (List AV)) (t5 : Int) (t6 : List (List AV)) (t1 : Int) (t9 : List (List AV)) (m14_0 : Int) (m14_1 : Int) : St :=
  { t := [(1, .i .i64 t1), (2, .rp [.int .i64, .int .i64, .int .i64, .sl 31] [.i .i64 ra, .i .i64 rb, .i .i64 rc, .rs 31 ps] 0), (4, .nl), (5, .i .i64 t5), (6, .rs 91 t6), (8, .p 14 0 0), (9, .gv 15 3 t9)], m := [(15, .fr 3), (0, .dead), (1, .dead), (2, .dead), (3, .dead), (4, .dead), (5, .dead), (6, .dead), (7, .dead), (8, .dead), (9, .dead), (10, .dead), (11, .dead), (12, .dead), (13, .dead), (14, .row 78 [[.i .i64 m14_0, .i .i64 m14_1]])], nx := 16, nt := 67 }
noncomputable def ou40a (ra : Int) (rb : Int) (rc : Int) (ps : List (List AV)) (t5 : Int) (t6 : List (List AV)) : T40a → Ex × St
  | .x0 t1 t9 m14_0 m14_1 => (.ext 0, o40a_0 ra rb rc ps t5 t6 t1 t9 m14_0 m14_1)
noncomputable def r40a (ra : Int) (rb : Int) (rc : Int) (ps : List (List AV)) (t5 : Int) (t6 : List (List AV)) (x : Int) (t9 : List (List AV)) (m14_0 : Int) (m14_1 : Int) : Option T40a := run (fun x => stp40a ra rb rc ps t5 t6 x.x x.t9 x.m14_0 x.m14_1) (⟨x, t9, m14_0, m14_1⟩ : S40a)
noncomputable def i40a_0 (ra : Int) (rb : Int) (rc : Int) (ps : List (List AV)) (t5 : Int) (t6 : List (List AV)) (x : Int) (t9 : List (List AV)) (m14_0 : Int) (m14_1 : Int) : Bool := match r40a ra rb rc ps t5 t6 x t9 m14_0 m14_1 with
  | some (.x0 _ _ _ _) => true
  | _ => false
noncomputable def v40a_0_t1 (ra : Int) (rb : Int) (rc : Int) (ps : List (List AV)) (t5 : Int) (t6 : List (List AV)) (x : Int) (t9 : List (List AV)) (m14_0 : Int) (m14_1 : Int) : Int := match r40a ra rb rc ps t5 t6 x t9 m14_0 m14_1 with
  | some (.x0 t1 _ _ _) => t1
  | _ => default
noncomputable def v40a_0_t9 (ra : Int) (rb : Int) (rc : Int) (ps : List (List AV)) (t5 : Int) (t6 : List (List AV)) (x : Int) (t9 : List (List AV)) (m14_0 : Int) (m14_1 : Int) : List (List AV) := match r40a ra rb rc ps t5 t6 x t9 m14_0 m14_1 with
  | some (.x0 _ t9 _ _) => t9
  | _ => default
noncomputable def v40a_0_m14_0 (ra : Int) (rb : Int) (rc : Int) (ps : List (List AV)) (t5 : Int) (t6 : List (List AV)) (x : Int) (t9 : List (List AV)) (m14_0 : Int) (m14_1 : Int) : Int := match r40a ra rb rc ps t5 t6 x t9 m14_0 m14_1 with
  | some (.x0 _ _ m14_0 _) => m14_0
  | _ => default
noncomputable def v40a_0_m14_1 (ra : Int) (rb : Int) (rc : Int) (ps : List (List AV)) (t5 : Int) (t6 : List (List AV)) (x : Int) (t9 : List (List AV)) (m14_0 : Int) (m14_1 : Int) : Int := match r40a ra rb rc ps t5 t6 x t9 m14_0 m14_1 with
  | some (.x0 _ _ _ m14_1) => m14_1
  | _ => default
noncomputable def l40a (st : St) : Option (List (Bool × Ex × St)) := match normW Try.prog [(1, none), (2, none), (4, none), (5, none), (6, none), (8, none), (9, some 3)] 15 st with
  | some ([.i .i64 x, .rp [.int .i64, .int .i64, .int .i64, .sl 31] [.i .i64 ra, .i .i64 rb, .i .i64 rc, .rs 31 ps] 0, .nl, .i .i64 t5, .rs 91 t6, .p 14 0 0, .gv 15 3 t9], [(15, .fr 3), (0, .dead), (1, .dead), (2, .dead), (3, .dead), (4, .dead), (5, .dead), (6, .dead), (7, .dead), (8, .dead), (9, .dead), (10, .dead), (11, .dead), (12, .dead), (13, .dead), (14, .row 78 [[.i .i64 m14_0, .i .i64 m14_1]])], 16, 67) => some [(i40a_0 ra rb rc ps t5 t6 x t9 m14_0 m14_1, .ext 0, o40a_0 ra rb rc ps t5 t6 (v40a_0_t1 ra rb rc ps t5 t6 x t9 m14_0 m14_1) (v40a_0_t9 ra rb rc ps t5 t6 x t9 m14_0 m14_1) (v40a_0_m14_0 ra rb rc ps t5 t6 x t9 m14_0 m14_1) (v40a_0_m14_1 ra rb rc ps t5 t6 x t9 m14_0 m14_1))]
  | _ => none
noncomputable def L40 : LSpec := fun p st => match p with
  | [false, true, false, true, false, false, false, true, true, true, true, true, true] => l40aa st
  | [false, false, true, true, true, true, true, true] => l40a st
  | _ => none
theorem is40aa_0 (ra : Int) (rb : Int) (rc : Int) (ps : List (List AV)) (t5 : Int) (t6 : List (List AV)) (t9 : List (List AV)) (t36 : List (List AV)) (t37 : Int) (m14_0 : Int) (m14_1 : Int) (x : Int) (t38 : Int) (h : i40aa_0 ra rb rc ps t5 t6 t9 t36 t37 m14_0 m14_1 x t38 = true) : r40aa ra rb rc ps t5 t6 t9 t36 t37 m14_0 m14_1 x t38 = some (.x0 (v40aa_0_t1 ra rb rc ps t5 t6 t9 t36 t37 m14_0 m14_1 x t38) (v40aa_0_t9' ra rb rc ps t5 t6 t9 t36 t37 m14_0 m14_1 x t38) (v40aa_0_t38 ra rb rc ps t5 t6 t9 t36 t37 m14_0 m14_1 x t38) (v40aa_0_m14_0' ra rb rc ps t5 t6 t9 t36 t37 m14_0 m14_1 x t38) (v40aa_0_m14_1' ra rb rc ps t5 t6 t9 t36 t37 m14_0 m14_1 x t38)) := by
  unfold i40aa_0 at h
  unfold v40aa_0_t1 v40aa_0_t9' v40aa_0_t38 v40aa_0_m14_0' v40aa_0_m14_1'
  generalize r40aa ra rb rc ps t5 t6 t9 t36 t37 m14_0 m14_1 x t38 = r at h ⊢
  rcases r with _ | y
  · cases h
  · cases y <;> first | rfl | cases h
theorem round40aa (x : Int) (ra : Int) (rb : Int) (rc : Int) (ps : List (List AV)) (t5 : Int) (t6 : List (List AV)) (t9 : List (List AV)) (t36 : List (List AV)) (t37 : Int) (t38 : Int) (m14_0 : Int) (m14_1 : Int) : round Try.prog Sh (ro 40) L40 lp40aa [false, true, false, true, false, false, false, true, true, true, true, true, true] [(1, none), (2, none), (4, none), (5, none), (6, none), (8, none), (9, some 3), (36, none), (37, none), (38, none)] 15 (s40aa x ra rb rc ps t5 t6 t9 t36 t37 t38 m14_0 m14_1) =
    cond (decide (t38 < t37)) (cond (inb t38 t36.length) (cond (g71 m14_0 m14_1 (fS (t36.getD t38.toNat []) 0) (fI (t36.getD t38.toNat []) 1) (fI (t36.getD t38.toNat []) 2) (fI (t36.getD t38.toNat []) 3) (fI (t36.getD t38.toNat []) 4)) (cond (!w71_2 m14_0 m14_1 (fS (t36.getD t38.toNat []) 0) (fI (t36.getD t38.toNat []) 1) (fI (t36.getD t38.toNat []) 2) (fI (t36.getD t38.toNat []) 3) (fI (t36.getD t38.toNat []) 4)) (some (.nrm, s40aa x ra rb rc ps t5 t6 t9 t36 t37 (IntKind.i64.wrap (t38 + 1)) m14_0 m14_1)) (cond (g51 t6 (w71_0 m14_0 m14_1 (fS (t36.getD t38.toNat []) 0) (fI (t36.getD t38.toNat []) 1) (fI (t36.getD t38.toNat []) 2) (fI (t36.getD t38.toNat []) 3) (fI (t36.getD t38.toNat []) 4)) (w71_1 m14_0 m14_1 (fS (t36.getD t38.toNat []) 0) (fI (t36.getD t38.toNat []) 1) (fI (t36.getD t38.toNat []) 2) (fI (t36.getD t38.toNat []) 3) (fI (t36.getD t38.toNat []) 4))) (cond (decide (x ≥ w51_0 t6 (w71_0 m14_0 m14_1 (fS (t36.getD t38.toNat []) 0) (fI (t36.getD t38.toNat []) 1) (fI (t36.getD t38.toNat []) 2) (fI (t36.getD t38.toNat []) 3) (fI (t36.getD t38.toNat []) 4)) (w71_1 m14_0 m14_1 (fS (t36.getD t38.toNat []) 0) (fI (t36.getD t38.toNat []) 1) (fI (t36.getD t38.toNat []) 2) (fI (t36.getD t38.toNat []) 3) (fI (t36.getD t38.toNat []) 4)))) (some (.nrm, s40aa (IntKind.i64.wrap (x - w51_0 t6 (w71_0 m14_0 m14_1 (fS (t36.getD t38.toNat []) 0) (fI (t36.getD t38.toNat []) 1) (fI (t36.getD t38.toNat []) 2) (fI (t36.getD t38.toNat []) 3) (fI (t36.getD t38.toNat []) 4)) (w71_1 m14_0 m14_1 (fS (t36.getD t38.toNat []) 0) (fI (t36.getD t38.toNat []) 1) (fI (t36.getD t38.toNat []) 2) (fI (t36.getD t38.toNat []) 3) (fI (t36.getD t38.toNat []) 4)))) ra rb rc ps t5 t6 t9 t36 t37 (IntKind.i64.wrap (t38 + 1)) m14_0 m14_1)) (cond ((t9.length + [[AV.i IntKind.i64 t38]].length).ble 9223372036854775807 && true) (cond (((t9.length + [[AV.i IntKind.i64 t38]].length) * 8).ble 140737488355328) (some (.ext 2, o40aa_0 ra rb rc ps t5 t6 t9 t36 t37 m14_0 m14_1 x (t9 ++ [[AV.i IntKind.i64 t38]]) t38 (w71_0 m14_0 m14_1 (fS (t36.getD t38.toNat []) 0) (fI (t36.getD t38.toNat []) 1) (fI (t36.getD t38.toNat []) 2) (fI (t36.getD t38.toNat []) 3) (fI (t36.getD t38.toNat []) 4)) (w71_1 m14_0 m14_1 (fS (t36.getD t38.toNat []) 0) (fI (t36.getD t38.toNat []) 1) (fI (t36.getD t38.toNat []) 2) (fI (t36.getD t38.toNat []) 3) (fI (t36.getD t38.toNat []) 4)))) (none)) (none))) (none))) (none)) (none)) (some (.ext 2, o40aa_0 ra rb rc ps t5 t6 t9 t36 t37 m14_0 m14_1 x t9 t38 m14_0 m14_1)) := by kernel_rfl
theorem rnd40aa (ra : Int) (rb : Int) (rc : Int) (ps : List (List AV)) (t5 : Int) (t6 : List (List AV)) (t9 : List (List AV)) (t36 : List (List AV)) (t37 : Int) (m14_0 : Int) (m14_1 : Int) (x : S40aa) : round Try.prog Sh (ro 40) L40 lp40aa [false, true, false, true, false, false, false, true, true, true, true, true, true] [(1, none), (2, none), (4, none), (5, none), (6, none), (8, none), (9, some 3), (36, none), (37, none), (38, none)] 15 ((fun x => s40aa x.x ra rb rc ps t5 t6 t9 t36 t37 x.t38 m14_0 m14_1) x) = toR (fun x => s40aa x.x ra rb rc ps t5 t6 t9 t36 t37 x.t38 m14_0 m14_1) (ou40aa ra rb rc ps t5 t6 t9 t36 t37 m14_0 m14_1) (stp40aa ra rb rc ps t5 t6 t9 t36 t37 m14_0 m14_1 x.x x.t38) := by
  refine (round40aa _ _ _ _ _ _ _ _ _ _ _ _ _ ).trans ?_
  unfold stp40aa
  simp only [toR_cond]
  rfl
theorem lok40aa {st : St} {outs : List (Bool × Ex × St)} {e : Ex} {s : St} (hl : l40aa st = some outs) (hch : Chosen outs e s) :
    ∃ keep nb, 0 ≤ nb ∧ LB Try.prog Sh (ro 40) L40 lp40aa [false, true, false, true, false, false, false, true, true, true, true, true, true] keep nb st e s := by
  unfold l40aa at hl
  split at hl
  · rename_i x ra rb rc ps t5 t6 t9 t36 t37 t38 m14_0 m14_1 hno
    cases hl
    have hno := normW_norm hno
    refine ⟨_, _, ?_, .enter hno ?_⟩
    · decide
    have main := fun y h => LB_run (x := (⟨x, t38⟩ : S40aa)) (y := y) (nb := 15) (fun y => by cases y <;> simp [ou40aa]) (rnd40aa ra rb rc ps t5 t6 t9 t36 t37 m14_0 m14_1) h
    obtain ⟨x, hx, hg, rfl, rfl⟩ := chosen_any hch
    simp only [List.mem_cons, List.not_mem_nil, or_false] at hx
    subst hx
    exact main _ (is40aa_0 ra rb rc ps t5 t6 t9 t36 t37 m14_0 m14_1 x t38 hg)
  · cases hl
theorem is40a_0 (ra : Int) (rb : Int) (rc : Int) (ps : List (List AV)) (t5 : Int) (t6 : List (List AV)) (x : Int) (t9 : List (List AV)) (m14_0 : Int) (m14_1 : Int) (h : i40a_0 ra rb rc ps t5 t6 x t9 m14_0 m14_1 = true) : r40a ra rb rc ps t5 t6 x t9 m14_0 m14_1 = some (.x0 (v40a_0_t1 ra rb rc ps t5 t6 x t9 m14_0 m14_1) (v40a_0_t9 ra rb rc ps t5 t6 x t9 m14_0 m14_1) (v40a_0_m14_0 ra rb rc ps t5 t6 x t9 m14_0 m14_1) (v40a_0_m14_1 ra rb rc ps t5 t6 x t9 m14_0 m14_1)) := by
  unfold i40a_0 at h
  unfold v40a_0_t1 v40a_0_t9 v40a_0_m14_0 v40a_0_m14_1
  generalize r40a ra rb rc ps t5 t6 x t9 m14_0 m14_1 = r at h ⊢
  rcases r with _ | y
  · cases h
  · cases y <;> first | rfl | cases h
theorem round40a (x : Int) (ra : Int) (rb : Int) (rc : Int) (ps : List (List AV)) (t5 : Int) (t6 : List (List AV)) (t9 : List (List AV)) (m14_0 : Int) (m14_1 : Int) : round Try.prog Sh (ro 40) L40 lp40a [false, false, true, true, true, true, true, true] [(1, none), (2, none), (4, none), (5, none), (6, none), (8, none), (9, some 3)] 15 (s40a x ra rb rc ps t5 t6 t9 m14_0 m14_1) =
    cond (decide (m14_0 > 0)) (cond (i40aa_0 ra rb rc ps t5 t6 t9 ps (↑ps.length : Int) m14_0 m14_1 x 0) (some (.nrm, s40a (v40aa_0_t1 ra rb rc ps t5 t6 t9 ps (↑ps.length : Int) m14_0 m14_1 x 0) ra rb rc ps t5 t6 (v40aa_0_t9' ra rb rc ps t5 t6 t9 ps (↑ps.length : Int) m14_0 m14_1 x 0) (v40aa_0_m14_0' ra rb rc ps t5 t6 t9 ps (↑ps.length : Int) m14_0 m14_1 x 0) (v40aa_0_m14_1' ra rb rc ps t5 t6 t9 ps (↑ps.length : Int) m14_0 m14_1 x 0))) (none)) (some (.ext 0, o40a_0 ra rb rc ps t5 t6 x t9 m14_0 m14_1)) := by kernel_rfl
theorem rnd40a (ra : Int) (rb : Int) (rc : Int) (ps : List (List AV)) (t5 : Int) (t6 : List (List AV)) (x : S40a) : round Try.prog Sh (ro 40) L40 lp40a [false, false, true, true, true, true, true, true] [(1, none), (2, none), (4, none), (5, none), (6, none), (8, none), (9, some 3)] 15 ((fun x => s40a x.x ra rb rc ps t5 t6 x.t9 x.m14_0 x.m14_1) x) = toR (fun x => s40a x.x ra rb rc ps t5 t6 x.t9 x.m14_0 x.m14_1) (ou40a ra rb rc ps t5 t6) (stp40a ra rb rc ps t5 t6 x.x x.t9 x.m14_0 x.m14_1) := by
  refine (round40a _ _ _ _ _ _ _ _ _ _ ).trans ?_
  unfold stp40a
  simp only [toR_cond]
  rfl
theorem lok40a {st : St} {outs : List (Bool × Ex × St)} {e : Ex} {s : St} (hl : l40a st = some outs) (hch : Chosen outs e s) :
    ∃ keep nb, 0 ≤ nb ∧ LB Try.prog Sh (ro 40) L40 lp40a [false, false, true, true, true, true, true, true] keep nb st e s := by
  unfold l40a at hl
  split at hl
  · rename_i x ra rb rc ps t5 t6 t9 m14_0 m14_1 hno
    cases hl
    have hno := normW_norm hno
    refine ⟨_, _, ?_, .enter hno ?_⟩
    · decide
    have main := fun y h => LB_run (x := (⟨x, t9, m14_0, m14_1⟩ : S40a)) (y := y) (nb := 15) (fun y => by cases y <;> simp [ou40a]) (rnd40a ra rb rc ps t5 t6) h
    obtain ⟨x, hx, hg, rfl, rfl⟩ := chosen_any hch
    simp only [List.mem_cons, List.not_mem_nil, or_false] at hx
    subst hx
    exact main _ (is40a_0 ra rb rc ps t5 t6 x t9 m14_0 m14_1 hg)
  · cases hl
theorem L40_ok (q : Pl) (c : Code) (hq : locate c40 q.reverse = some (.loop c)) (st : St) (outs : List (Bool × Ex × St)) (e : Ex) (s : St) (hl : L40 q st = some outs) (hch : Chosen outs e s) :
    ∃ keep nb, 0 ≤ nb ∧ LB Try.prog Sh (ro 40) L40 c q keep nb st e s := by
  unfold L40 at hl
  split at hl
  · have : locate c40 ([false, true, false, true, false, false, false, true, true, true, true, true, true] : Pl).reverse = some (.loop lp40aa) := by kernel_rfl
    rw [this] at hq
    cases hq
    exact lok40aa hl hch
  · have : locate c40 ([false, false, true, true, true, true, true, true] : Pl).reverse = some (.loop lp40a) := by kernel_rfl
    rw [this] at hq
    cases hq
    exact lok40a hl hch
  · cases hl
theorem lok40 : LOK Try.prog Sh (ro 40) L40 0 false c40 [] :=
  lok_lo L40_ok c40 [] false (locate_nil _) (by kernel_rfl)
noncomputable def t40 (ra rb rc : Int) (ps : List (List AV)) (x : Int) : Tr ((List (List AV)) × (Int)) :=
  .cn (g50 ra rb rc ps) (.cn (w50_1 ra rb rc ps != 0) (.lf ([], w50_1 ra rb rc ps)) (.cn (g51 (w50_0 ra rb rc ps) (w52_0 ra rb rc ps) (w52_1 ra rb rc ps)) (.cn (g55 x 0 (IntKind.i64.wrap (w51_0 (w50_0 ra rb rc ps) (w52_0 ra rb rc ps) (w52_1 ra rb rc ps) - 1))) (.cn (!w55_0 x 0 (IntKind.i64.wrap (w51_0 (w50_0 ra rb rc ps) (w52_0 ra rb rc ps) (w52_1 ra rb rc ps) - 1))) (.lf ([], 1)) (.cn (i40a_0 ra rb rc ps 0 (w50_0 ra rb rc ps) x [] (w52_0 ra rb rc ps) (w52_1 ra rb rc ps)) (.lf (v40a_0_t9 ra rb rc ps 0 (w50_0 ra rb rc ps) x [] (w52_0 ra rb rc ps) (w52_1 ra rb rc ps), 0)) (.nn))) (.nn)) (.nn))) (.nn)
noncomputable def g40 (ra rb rc : Int) (ps : List (List AV)) (x : Int) : Bool := (t40 ra rb rc ps x).g
noncomputable def w40_0 (ra rb rc : Int) (ps : List (List AV)) (x : Int) : List (List AV) := (t40 ra rb rc ps x).val.1
noncomputable def w40_1 (ra rb rc : Int) (ps : List (List AV)) (x : Int) : Int := (t40 ra rb rc ps x).val.2
noncomputable def a40 (ra rb rc : Int) (ps : List (List AV)) (x : Int) : Tr AV :=
  .cn (g50 ra rb rc ps) (.cn (w50_1 ra rb rc ps != 0) (.lf (.tup [.nl, .i .i64 (w50_1 ra rb rc ps)])) (.cn (g51 (w50_0 ra rb rc ps) (w52_0 ra rb rc ps) (w52_1 ra rb rc ps)) (.cn (g55 x 0 (IntKind.i64.wrap (w51_0 (w50_0 ra rb rc ps) (w52_0 ra rb rc ps) (w52_1 ra rb rc ps) - 1))) (.cn (!w55_0 x 0 (IntKind.i64.wrap (w51_0 (w50_0 ra rb rc ps) (w52_0 ra rb rc ps) (w52_1 ra rb rc ps) - 1))) (.lf (.tup [.nl, .i .i64 1])) (.cn (i40a_0 ra rb rc ps 0 (w50_0 ra rb rc ps) x [] (w52_0 ra rb rc ps) (w52_1 ra rb rc ps)) (.lf (.tup [.rs 3 (v40a_0_t9 ra rb rc ps 0 (w50_0 ra rb rc ps) x [] (w52_0 ra rb rc ps) (w52_1 ra rb rc ps)), .i .i64 0])) (.nn))) (.nn)) (.nn))) (.nn)
theorem eq40 (ra rb rc : Int) (ps : List (List AV)) (x : Int) : evF Try.prog Sh (ro 40) L40 Try.f40 [.agg [.i .i64 ra, .i .i64 rb, .i .i64 rc, .rs 31 ps], .i .i64 x] = (a40 ra rb rc ps x).opt id := by kernel_rfl
theorem wk40 (ra rb rc : Int) (ps : List (List AV)) (x : Int) : (a40 ra rb rc ps x).map (wkV [some 3, none]) = (t40 ra rb rc ps x).map (fun (x : (List (List AV)) × (Int)) => (.tup [.rs 3 x.1, .i .i64 x.2] : AV)) := by kernel_rfl
theorem con40 (ra rb rc : Int) (ps : List (List AV)) (x : Int) (h : g40 ra rb rc ps x = true) : Con Try.prog 40 [.agg [.i .i64 ra, .i .i64 rb, .i .i64 rc, .rs 31 ps], .i .i64 x] [] (.tup [.rs 3 (w40_0 ra rb rc ps x), .i .i64 (w40_1 ra rb rc ps x)]) [] := by
  obtain ⟨v, h1, h2⟩ := Tr.soundW (eq40 ra rb rc ps x) (wk40 ra rb rc ps x) h
  have := (con_of Sh_ok mixed Try.func40 (c := c40) rfl (names 40 _ Try.func40) lok40 h1).wk [some 3, none]
  rw [h2] at this
  exact this
noncomputable def e40 (args : List AV) (rows : List Blk) : Option (Bool × AV × List Blk) := match args, rows with
  | [.agg [.i .i64 ra, .i .i64 rb, .i .i64 rc, .rs 31 ps], .i .i64 x], [] => some (g40 ra rb rc ps x, .tup [.rs 3 (w40_0 ra rb rc ps x), .i .i64 (w40_1 ra rb rc ps x)], [])
  | _, _ => none
theorem e40_ok (args : List AV) (rows : List Blk) (pre : Bool) (v : AV) (rows' : List Blk) (h : e40 args rows = some (pre, v, rows')) (hp : pre = true) : Con Try.prog 40 args rows v rows' := by
  unfold e40 at h
  split at h
  · cases h; exact con40 _ _ _ _ _ hp
  · cases h
-- SPEC 40
end Go.Proofs.Ytgifjphinkbcaaa

set_option maxRecDepth 100000
set_option linter.unusedVariables false
namespace Go.Proofs.Ytgifjphinkbcaaa
open Go Go.Ev

/-! ### ref Nth -/
noncomputable def c41 : Code := match Try.f41.body with | some c => c | _ => .skip
noncomputable def lp41a : Code := loopAt c41 [true, true, true, true, true, true, false, false]
noncomputable def s41a (x : Int) (ra : Int) (rb : Int) (rc : Int) (ps : List (List AV)) (t5 : Int) (t6 : List (List AV)) (t8 : List (List AV)) (t9 : Int) (t10 : Int) : St :=
  { t := [(1, .i .i64 x), (2, .rp [.int .i64, .int .i64, .int .i64, .sl 31] [.i .i64 ra, .i .i64 rb, .i .i64 rc, .rs 31 ps] 0), (4, .nl), (5, .i .i64 t5), (6, .rs 91 t6), (8, .gv 0 3 t8), (9, .i .i64 t9), (10, .i .i64 t10)], m := [(0, .fr 3)], nx := 1, nt := 93 }
noncomputable def lp41aa : Code := loopAt c41 [true, true, true, true, true, true, false, false, false, true, false, true, false]
noncomputable def s41aa (x : Int) (ra : Int) (rb : Int) (rc : Int) (ps : List (List AV)) (t5 : Int) (t6 : List (List AV)) (t8 : List (List AV)) (t9 : Int) (t10 : Int) (t11 : Int) : St :=
  { t := [(1, .i .i64 x), (2, .rp [.int .i64, .int .i64, .int .i64, .sl 31] [.i .i64 ra, .i .i64 rb, .i .i64 rc, .rs 31 ps] 0), (4, .nl), (5, .i .i64 t5), (6, .rs 91 t6), (8, .gv 0 3 t8), (9, .i .i64 t9), (10, .i .i64 t10), (11, .i .i64 t11)], m := [(0, .fr 3)], nx := 1, nt := 93 }
structure S41aa where
  x : Int
  t11 : Int
inductive T41aa where
  | x0 (t1 : Int) (t8' : List (List AV)) (t9' : Int) (t10' : Int) (t11 : Int)
noncomputable def stp41aa (ra : Int) (rb : Int) (rc : Int) (ps : List (List AV)) (t5 : Int) (t6 : List (List AV)) (t8 : List (List AV)) (t9 : Int) (t10 : Int) (x : Int) (t11 : Int) : Lp S41aa T41aa :=
  cond (decide (t11 < (↑ps.length : Int))) (cond (inb t11 ps.length) (cond (fI (ps.getD t11.toNat []) 2 != t10) (.go ⟨x, IntKind.i64.wrap (t11 + 1)⟩) (cond (decide (fI (ps.getD t11.toNat []) 1 > t9)) (.go ⟨x, IntKind.i64.wrap (t11 + 1)⟩) (cond (inb (IntKind.i64.wrap (t9 - fI (ps.getD t11.toNat []) 1)) t6.length) (cond (inb (fI (ps.getD t11.toNat []) 3) 10) (cond (ctsAt (cts Try.prog 91) (0 + (fI (ps.getD t11.toNat []) 3).toNat * 1) (cts Try.prog 3)) (cond (decide (x < toI ((t6.getD (IntKind.i64.wrap (t9 - fI (ps.getD t11.toNat []) 1)).toNat []).getD (0 + (fI (ps.getD t11.toNat []) 3).toNat * 1) AV.u))) (cond ((t8.length + [[AV.i IntKind.i64 t11]].length).ble 9223372036854775807 && true) (cond (((t8.length + [[AV.i IntKind.i64 t11]].length) * 8).ble 140737488355328) (.out (.x0 x (t8 ++ [[AV.i IntKind.i64 t11]]) (IntKind.i64.wrap (t9 - fI (ps.getD t11.toNat []) 1)) (fI (ps.getD t11.toNat []) 3) t11)) (.bad)) (.bad)) (.go ⟨IntKind.i64.wrap (x - toI ((t6.getD (IntKind.i64.wrap (t9 - fI (ps.getD t11.toNat []) 1)).toNat []).getD (0 + (fI (ps.getD t11.toNat []) 3).toNat * 1) AV.u)), IntKind.i64.wrap (t11 + 1)⟩)) (.bad)) (.bad)) (.bad)))) (.bad)) (.out (.x0 x t8 t9 t10 t11))
noncomputable def o41aa_0 (ra : Int) (rb : Int) (rc : Int) (ps : List (List AV)) (t5 : Int) (t6 : List (List AV)) (t8 : List (List AV)) (t9 : Int) (t10 : Int) (t1 : Int) (t8' : List (List AV)) (t9' : Int) (t10' : Int) (t11 : Int) : St :=
  { t := [(1, .i .i64 t1), (2, .rp [.int .i64, .int .i64, .int .i64, .sl 31] [.i .i64 ra, .i .i64 rb, .i .i64 rc, .rs 31 ps] 0), (4, .nl), (5, .i .i64 t5), (6, .rs 91 t6), (8, .gv 0 3 t8'), (9, .i .i64 t9'), (10, .i .i64 t10'), (11, .i .i64 t11)], m := [(0, .fr 3)], nx := 1, nt := 93 }
noncomputable def ou41aa (ra : Int) (rb : Int) (rc : Int) (ps : List (List AV)) (t5 : Int) (t6 : List (List AV)) (t8 : List (List AV)) (t9 : Int) (t10 : Int) : T41aa → Ex × St
  | .x0 t1 t8' t9' t10' t11 => (.ext 2, o41aa_0 ra rb rc ps t5 t6 t8 t9 t10 t1 t8' t9' t10' t11)
noncomputable def r41aa (ra : Int) (rb : Int) (rc : Int) (ps : List (List AV)) (t5 : Int) (t6 : List (List AV)) (t8 : List (List AV)) (t9 : Int) (t10 : Int) (x : Int) (t11 : Int) : Option T41aa := run (fun x => stp41aa ra rb rc ps t5 t6 t8 t9 t10 x.x x.t11) (⟨x, t11⟩ : S41aa)
noncomputable def i41aa_0 (ra : Int) (rb : Int) (rc : Int) (ps : List (List AV)) (t5 : Int) (t6 : List (List AV)) (t8 : List (List AV)) (t9 : Int) (t10 : Int) (x : Int) (t11 : Int) : Bool := match r41aa ra rb rc ps t5 t6 t8 t9 t10 x t11 with
  | some (.x0 _ _ _ _ _) => true
  | _ => false
noncomputable def v41aa_0_t1 (ra : Int) (rb : Int) (rc : Int) (ps : List (List AV)) (t5 : Int) (t6 : List (List AV)) (t8 : List (List AV)) (t9 : Int) (t10 : Int) (x : Int) (t11 : Int) : Int := match r41aa ra rb rc ps t5 t6 t8 t9 t10 x t11 with
  | some (.x0 t1 _ _ _ _) => t1
  | _ => default
noncomputable def v41aa_0_t8' (ra : Int) (rb : Int) (rc : Int) (ps : List (List AV)) (t5 : Int) (t6 : List (List AV)) (t8 : List (List AV)) (t9 : Int) (t10 : Int) (x : Int) (t11 : Int) : List (List AV) := match r41aa ra rb rc ps t5 t6 t8 t9 t10 x t11 with
  | some (.x0 _ t8' _ _ _) => t8'
  | _ => default
noncomputable def v41aa_0_t9' (ra : Int) (rb : Int) (rc : Int) (ps : List (List AV)) (t5 : Int) (t6 : List (List AV)) (t8 : List (List AV)) (t9 : Int) (t10 : Int) (x : Int) (t11 : Int) : Int := match r41aa ra rb rc ps t5 t6 t8 t9 t10 x t11 with
  | some (.x0 _ _ t9' _ _) => t9'
  | _ => default
noncomputable def v41aa_0_t10' (ra : Int) (rb : Int) (rc : Int) (ps : List (List AV)) (t5 : Int) (t6 : List (List AV)) (t8 : List (List AV)) (t9 : Int) (t10 : Int) (x : Int) (t11 : Int) : Int := match r41aa ra rb rc ps t5 t6 t8 t9 t10 x t11 with
  | some (.x0 _ _ _ t10' _) => t10'
  | _ => default
noncomputable def v41aa_0_t11 (ra : Int) (rb : Int) (rc : Int) (ps : List (List AV)) (t5 : Int) (t6 : List (List AV)) (t8 : List (List AV)) (t9 : Int) (t10 : Int) (x : Int) (t11 : Int) : Int := match r41aa ra rb rc ps t5 t6 t8 t9 t10 x t11 with
  | some (.x0 _ _ _ _ t11) => t11
  | _ => default
noncomputable def l41aa (st : St) : Option (List (Bool × Ex × St)) := match normW Try.prog [(1, none), (2, none), (4, none), (5, none), (6, none), (8, some 3), (9, none), (10, none), (11, none)] 0 st with
  | some ([.i .i64 x, .rp [.int .i64, .int .i64, .int .i64, .sl 31] [.i .i64 ra, .i .i64 rb, .i .i64 rc, .rs 31 ps] 0, .nl, .i .i64 t5, .rs 91 t6, .gv 0 3 t8, .i .i64 t9, .i .i64 t10, .i .i64 t11], [(0, .fr 3)], 1, 93) => some [(i41aa_0 ra rb rc ps t5 t6 t8 t9 t10 x t11, .ext 2, o41aa_0 ra rb rc ps t5 t6 t8 t9 t10 (v41aa_0_t1 ra rb rc ps t5 t6 t8 t9 t10 x t11) (v41aa_0_t8' ra rb rc ps t5 t6 t8 t9 t10 x t11) (v41aa_0_t9' ra rb rc ps t5 t6 t8 t9 t10 x t11) (v41aa_0_t10' ra rb rc ps t5 t6 t8 t9 t10 x t11) (v41aa_0_t11 ra rb rc ps t5 t6 t8 t9 t10 x t11))]
  | _ => none
structure S41a where
  x : Int
  t8 : List (List AV)
  t9 : Int
  t10 : Int
inductive T41a where
  | x0 (t1 : Int) (t8 : List (List AV)) (t9 : Int) (t10 : Int)
noncomputable def stp41a (ra : Int) (rb : Int) (rc : Int) (ps : List (List AV)) (t5 : Int) (t6 : List (List AV)) (x : Int) (t8 : List (List AV)) (t9 : Int) (t10 : Int) : Lp S41a T41a :=
  cond (decide (t9 > 0)) (cond (i41aa_0 ra rb rc ps t5 t6 t8 t9 t10 x 0) (.go ⟨v41aa_0_t1 ra rb rc ps t5 t6 t8 t9 t10 x 0, v41aa_0_t8' ra rb rc ps t5 t6 t8 t9 t10 x 0, v41aa_0_t9' ra rb rc ps t5 t6 t8 t9 t10 x 0, v41aa_0_t10' ra rb rc ps t5 t6 t8 t9 t10 x 0⟩) (.bad)) (.out (.x0 x t8 t9 t10))
noncomputable def o41a_0 (ra : Int) (rb : Int) (rc : Int) (ps : List (List AV)) (t5 : Int) (t6 : List (List AV)) (t1 : Int) (t8 : List (List AV)) (t9 : Int) (t10 : Int) : St :=
  { t := [(1, .i .i64 t1), (2, .rp [.int .i64, .int .i64, .int .i64, .sl 31] [.i .i64 ra, .i .i64 rb, .i .i64 rc, .rs 31 ps] 0), (4, .nl), (5, .i .i64 t5), (6, .rs 91 t6), (8, .gv 0 3 t8), (9, .i .i64 t9), (10, .i .i64 t10)], m := [(0, .fr 3)], nx := 1, nt := 93 }
noncomputable def ou41a (ra : Int) (rb : Int) (rc : Int) (ps : List (List AV)) (t5 : Int) (t6 : List (List AV)) : T41a → Ex × St
  | .x0 t1 t8 t9 t10 => (.ext 0, o41a_0 ra rb rc ps t5 t6 t1 t8 t9 t10)
noncomputable def r41a (ra : Int) (rb : Int) (rc : Int) (ps : List (List AV)) (t5 : Int) (t6 : List (List AV)) (x : Int) (t8 : List (List AV)) (t9 : Int) (t10 : Int) : Option T41a := run (fun x => stp41a ra rb rc ps t5 t6 x.x x.t8 x.t9 x.t10) (⟨x, t8, t9, t10⟩ : S41a)
noncomputable def i41a_0 (ra : Int) (rb : Int) (rc : Int) (ps : List (List AV)) (t5 : Int) (t6 : List (List AV)) (x : Int) (t8 : List (List AV)) (t9 : Int) (t10 : Int) : Bool := match r41a ra rb rc ps t5 t6 x t8 t9 t10 with
  | some (.x0 _ _ _ _) => true
  | _ => false
noncomputable def v41a_0_t1 (ra : Int) (rb : Int) (rc : Int) (ps : List (List AV)) (t5 : Int) (t6 : List (List AV)) (x : Int) (t8 : List (List AV)) (t9 : Int) (t10 : Int) : Int := match r41a ra rb rc ps t5 t6 x t8 t9 t10 with
  | some (.x0 t1 _ _ _) => t1
  | _ => default
noncomputable def v41a_0_t8 (ra : Int) (rb : Int) (rc : Int) (ps : List (List AV)) (t5 : Int) (t6 : List (List AV)) (x : Int) (t8 : List (List AV)) (t9 : Int) (t10 : Int) : List (List AV) := match r41a ra rb rc ps t5 t6 x t8 t9 t10 with
  | some (.x0 _ t8 _ _) => t8
  | _ => default
noncomputable def v41a_0_t9 (ra : Int) (rb : Int) (rc : Int) (ps : List (List AV)) (t5 : Int) (t6 : List (List AV)) (x : Int) (t8 : List (List AV)) (t9 : Int) (t10 : Int) : Int := match r41a ra rb rc ps t5 t6 x t8 t9 t10 with
  | some (.x0 _ _ t9 _) => t9
  | _ => default
noncomputable def v41a_0_t10 (ra : Int) (rb : Int) (rc : Int) (ps : List (List AV)) (t5 : Int) (t6 : List (List AV)) (x : Int) (t8 : List (List AV)) (t9 : Int) (t10 : Int) : Int := match r41a ra rb rc ps t5 t6 x t8 t9 t10 with
  | some (.x0 _ _ _ t10) => t10
  | _ => default
noncomputable def l41a (st : St) : Option (List (Bool × Ex × St)) := match normW Try.prog [(1, none), (2, none), (4, none), (5, none), (6, none), (8, some 3), (9, none), (10, none)] 0 st with
  | some ([.i .i64 x, .rp [.int .i64, .int .i64, .int .i64, .sl 31] [.i .i64 ra, .i .i64 rb, .i .i64 rc, .rs 31 ps] 0, .nl, .i .i64 t5, .rs 91 t6, .gv 0 3 t8, .i .i64 t9, .i .i64 t10], [(0, .fr 3)], 1, 93) => some [(i41a_0 ra rb rc ps t5 t6 x t8 t9 t10, .ext 0, o41a_0 ra rb rc ps t5 t6 (v41a_0_t1 ra rb rc ps t5 t6 x t8 t9 t10) (v41a_0_t8 ra rb rc ps t5 t6 x t8 t9 t10) (v41a_0_t9 ra rb rc ps t5 t6 x t8 t9 t10) (v41a_0_t10 ra rb rc ps t5 t6 x t8 t9 t10))]
  | _ => none
noncomputable def L41 : LSpec := fun p st => match p with
  | [false, true, false, true, false, false, false, true, true, true, true, true, true] => l41aa st
  | [false, false, true, true, true, true, true, true] => l41a st
  | _ => none
theorem is41aa_0 (ra : Int) (rb : Int) (rc : Int) (ps : List (List AV)) (t5 : Int) (t6 : List (List AV)) (t8 : List (List AV)) (t9 : Int) (t10 : Int) (x : Int) (t11 : Int) (h : i41aa_0 ra rb rc ps t5 t6 t8 t9 t10 x t11 = true) : r41aa ra rb rc ps t5 t6 t8 t9 t10 x t11 = some (.x0 (v41aa_0_t1 ra rb rc ps t5 t6 t8 t9 t10 x t11) (v41aa_0_t8' ra rb rc ps t5 t6 t8 t9 t10 x t11) (v41aa_0_t9' ra rb rc ps t5 t6 t8 t9 t10 x t11) (v41aa_0_t10' ra rb rc ps t5 t6 t8 t9 t10 x t11) (v41aa_0_t11 ra rb rc ps t5 t6 t8 t9 t10 x t11)) := by
  unfold i41aa_0 at h
  unfold v41aa_0_t1 v41aa_0_t8' v41aa_0_t9' v41aa_0_t10' v41aa_0_t11
  generalize r41aa ra rb rc ps t5 t6 t8 t9 t10 x t11 = r at h ⊢
  rcases r with _ | y
  · cases h
  · cases y <;> first | rfl | cases h
theorem round41aa (x : Int) (ra : Int) (rb : Int) (rc : Int) (ps : List (List AV)) (t5 : Int) (t6 : List (List AV)) (t8 : List (List AV)) (t9 : Int) (t10 : Int) (t11 : Int) : round Try.prog Sh (ro 41) L41 lp41aa [false, true, false, true, false, false, false, true, true, true, true, true, true] [(1, none), (2, none), (4, none), (5, none), (6, none), (8, some 3), (9, none), (10, none), (11, none)] 0 (s41aa x ra rb rc ps t5 t6 t8 t9 t10 t11) =
    cond (decide (t11 < (↑ps.length : Int))) (cond (inb t11 ps.length) (cond (fI (ps.getD t11.toNat []) 2 != t10) (some (.nrm, s41aa x ra rb rc ps t5 t6 t8 t9 t10 (IntKind.i64.wrap (t11 + 1)))) (cond (decide (fI (ps.getD t11.toNat []) 1 > t9)) (some (.nrm, s41aa x ra rb rc ps t5 t6 t8 t9 t10 (IntKind.i64.wrap (t11 + 1)))) (cond (inb (IntKind.i64.wrap (t9 - fI (ps.getD t11.toNat []) 1)) t6.length) (cond (inb (fI (ps.getD t11.toNat []) 3) 10) (cond (ctsAt (cts Try.prog 91) (0 + (fI (ps.getD t11.toNat []) 3).toNat * 1) (cts Try.prog 3)) (cond (decide (x < toI ((t6.getD (IntKind.i64.wrap (t9 - fI (ps.getD t11.toNat []) 1)).toNat []).getD (0 + (fI (ps.getD t11.toNat []) 3).toNat * 1) AV.u))) (cond ((t8.length + [[AV.i IntKind.i64 t11]].length).ble 9223372036854775807 && true) (cond (((t8.length + [[AV.i IntKind.i64 t11]].length) * 8).ble 140737488355328) (some (.ext 2, o41aa_0 ra rb rc ps t5 t6 t8 t9 t10 x (t8 ++ [[AV.i IntKind.i64 t11]]) (IntKind.i64.wrap (t9 - fI (ps.getD t11.toNat []) 1)) (fI (ps.getD t11.toNat []) 3) t11)) (none)) (none)) (some (.nrm, s41aa (IntKind.i64.wrap (x - toI ((t6.getD (IntKind.i64.wrap (t9 - fI (ps.getD t11.toNat []) 1)).toNat []).getD (0 + (fI (ps.getD t11.toNat []) 3).toNat * 1) AV.u))) ra rb rc ps t5 t6 t8 t9 t10 (IntKind.i64.wrap (t11 + 1))))) (none)) (none)) (none)))) (none)) (some (.ext 2, o41aa_0 ra rb rc ps t5 t6 t8 t9 t10 x t8 t9 t10 t11)) := by kernel_rfl
theorem rnd41aa (ra : Int) (rb : Int) (rc : Int) (ps : List (List AV)) (t5 : Int) (t6 : List (List AV)) (t8 : List (List AV)) (t9 : Int) (t10 : Int) (x : S41aa) : round Try.prog Sh (ro 41) L41 lp41aa [false, true, false, true, false, false, false, true, true, true, true, true, true] [(1, none), (2, none), (4, none), (5, none), (6, none), (8, some 3), (9, none), (10, none), (11, none)] 0 ((fun x => s41aa x.x ra rb rc ps t5 t6 t8 t9 t10 x.t11) x) = toR (fun x => s41aa x.x ra rb rc ps t5 t6 t8 t9 t10 x.t11) (ou41aa ra rb rc ps t5 t6 t8 t9 t10) (stp41aa ra rb rc ps t5 t6 t8 t9 t10 x.x x.t11) := by
  refine (round41aa _ _ _ _ _ _ _ _ _ _ _ ).trans ?_
  unfold stp41aa
  simp only [toR_cond]
  rfl
theorem lok41aa {st : St} {outs : List (Bool × Ex × St)} {e : Ex} {s : St} (hl : l41aa st = some outs) (hch : Chosen outs e s) :
    ∃ keep nb, 0 ≤ nb ∧ LB Try.prog Sh (ro 41) L41 lp41aa [false, true, false, true, false, false, false, true, true, true, true, true, true] keep nb st e s := by
  unfold l41aa at hl
  split at hl
  · rename_i x ra rb rc ps t5 t6 t8 t9 t10 t11 hno
    cases hl
    have hno := normW_norm hno
    refine ⟨_, _, ?_, .enter hno ?_⟩
    · decide
    have main := fun y h => LB_run (x := (⟨x, t11⟩ : S41aa)) (y := y) (nb := 0) (fun y => by cases y <;> simp [ou41aa]) (rnd41aa ra rb rc ps t5 t6 t8 t9 t10) h
    obtain ⟨x, hx, hg, rfl, rfl⟩ := chosen_any hch
    simp only [List.mem_cons, List.not_mem_nil, or_false] at hx
    subst hx
    exact main _ (is41aa_0 ra rb rc ps t5 t6 t8 t9 t10 x t11 hg)
  · cases hl
theorem is41a_0 (ra : Int) (rb : Int) (rc : Int) (ps : List (List AV)) (t5 : Int) (t6 : List (List AV)) (x : Int) (t8 : List (List AV)) (t9 : Int) (t10 : Int) (h : i41a_0 ra rb rc ps t5 t6 x t8 t9 t10 = true) : r41a ra rb rc ps t5 t6 x t8 t9 t10 = some (.x0 (v41a_0_t1 ra rb rc ps t5 t6 x t8 t9 t10) (v41a_0_t8 ra rb rc ps t5 t6 x t8 t9 t10) (v41a_0_t9 ra rb rc ps t5 t6 x t8 t9 t10) (v41a_0_t10 ra rb rc ps t5 t6 x t8 t9 t10)) := by
  unfold i41a_0 at h
  unfold v41a_0_t1 v41a_0_t8 v41a_0_t9 v41a_0_t10
  generalize r41a ra rb rc ps t5 t6 x t8 t9 t10 = r at h ⊢
  rcases r with _ | y
  · cases h
  · cases y <;> first | rfl | cases h
theorem round41a (x : Int) (ra : Int) (rb : Int) (rc : Int) (ps : List (List AV)) (t5 : Int) (t6 : List (List AV)) (t8 : List (List AV)) (t9 : Int) (t10 : Int) : round Try.prog Sh (ro 41) L41 lp41a [false, false, true, true, true, true, true, true] [(1, none), (2, none), (4, none), (5, none), (6, none), (8, some 3), (9, none), (10, none)] 0 (s41a x ra rb rc ps t5 t6 t8 t9 t10) =
    cond (decide (t9 > 0)) (cond (i41aa_0 ra rb rc ps t5 t6 t8 t9 t10 x 0) (some (.nrm, s41a (v41aa_0_t1 ra rb rc ps t5 t6 t8 t9 t10 x 0) ra rb rc ps t5 t6 (v41aa_0_t8' ra rb rc ps t5 t6 t8 t9 t10 x 0) (v41aa_0_t9' ra rb rc ps t5 t6 t8 t9 t10 x 0) (v41aa_0_t10' ra rb rc ps t5 t6 t8 t9 t10 x 0))) (none)) (some (.ext 0, o41a_0 ra rb rc ps t5 t6 x t8 t9 t10)) := by kernel_rfl
theorem rnd41a (ra : Int) (rb : Int) (rc : Int) (ps : List (List AV)) (t5 : Int) (t6 : List (List AV)) (x : S41a) : round Try.prog Sh (ro 41) L41 lp41a [false, false, true, true, true, true, true, true] [(1, none), (2, none), (4, none), (5, none), (6, none), (8, some 3), (9, none), (10, none)] 0 ((fun x => s41a x.x ra rb rc ps t5 t6 x.t8 x.t9 x.t10) x) = toR (fun x => s41a x.x ra rb rc ps t5 t6 x.t8 x.t9 x.t10) (ou41a ra rb rc ps t5 t6) (stp41a ra rb rc ps t5 t6 x.x x.t8 x.t9 x.t10) := by
  refine (round41a _ _ _ _ _ _ _ _ _ _ ).trans ?_
  unfold stp41a
  simp only [toR_cond]
  rfl
theorem lok41a {st : St} {outs : List (Bool × Ex × St)} {e : Ex} {s : St} (hl : l41a st = some outs) (hch : Chosen outs e s) :
    ∃ keep nb, 0 ≤ nb ∧ LB Try.prog Sh (ro 41) L41 lp41a [false, false, true, true, true, true, true, true] keep nb st e s := by
  unfold l41a at hl
  split at hl
  · rename_i x ra rb rc ps t5 t6 t8 t9 t10 hno
    cases hl
    have hno := normW_norm hno
    refine ⟨_, _, ?_, .enter hno ?_⟩
    · decide
    have main := fun y h => LB_run (x := (⟨x, t8, t9, t10⟩ : S41a)) (y := y) (nb := 0) (fun y => by cases y <;> simp [ou41a]) (rnd41a ra rb rc ps t5 t6) h
    obtain ⟨x, hx, hg, rfl, rfl⟩ := chosen_any hch
    simp only [List.mem_cons, List.not_mem_nil, or_false] at hx
    subst hx
    exact main _ (is41a_0 ra rb rc ps t5 t6 x t8 t9 t10 hg)
  · cases hl
theorem L41_ok (q : Pl) (c : Code) (hq : locate c41 q.reverse = some (.loop c)) (st : St) (outs : List (Bool × Ex × St)) (e : Ex) (s : St) (hl : L41 q st = some outs) (hch : Chosen outs e s) :
    ∃ keep nb, 0 ≤ nb ∧ LB Try.prog Sh (ro 41) L41 c q keep nb st e s := by
  unfold L41 at hl
  split at hl
  · have : locate c41 ([false, true, false, true, false, false, false, true, true, true, true, true, true] : Pl).reverse = some (.loop lp41aa) := by kernel_rfl
    rw [this] at hq
    cases hq
    exact lok41aa hl hch
  · have : locate c41 ([false, false, true, true, true, true, true, true] : Pl).reverse = some (.loop lp41a) := by kernel_rfl
    rw [this] at hq
    cases hq
    exact lok41a hl hch
  · cases hl
theorem lok41 : LOK Try.prog Sh (ro 41) L41 0 false c41 [] :=
  lok_lo L41_ok c41 [] false (locate_nil _) (by kernel_rfl)
noncomputable def t41 (ra rb rc : Int) (ps : List (List AV)) (x : Int) : Tr ((List (List AV)) × (Int)) :=
  .cn (g67 ra rb rc ps) (.cn (w67_1 ra rb rc ps == 0) (.cn (inb ra (w67_0 ra rb rc ps).length) (.cn (inb rb 10) (.cn (ctsAt (cts Try.prog 91) (0 + rb.toNat * 1) (cts Try.prog 3)) (.cn (g57 x 0 (IntKind.i64.wrap (toI (((w67_0 ra rb rc ps).getD ra.toNat []).getD (0 + rb.toNat * 1) AV.u) - 1))) (.cn (!w57_0 x 0 (IntKind.i64.wrap (toI (((w67_0 ra rb rc ps).getD ra.toNat []).getD (0 + rb.toNat * 1) AV.u) - 1))) (.lf ([], 1)) (.cn (w67_1 ra rb rc ps != 0) (.lf ([], w67_1 ra rb rc ps)) (.cn (i41a_0 ra rb rc ps 0 (w67_0 ra rb rc ps) x [] ra rb) (.lf (v41a_0_t8 ra rb rc ps 0 (w67_0 ra rb rc ps) x [] ra rb, 0)) (.nn)))) (.nn)) (.nn)) (.nn)) (.nn)) (.cn (w67_1 ra rb rc ps != 0) (.lf ([], w67_1 ra rb rc ps)) (.cn (i41a_0 ra rb rc ps 0 (w67_0 ra rb rc ps) x [] ra rb) (.lf (v41a_0_t8 ra rb rc ps 0 (w67_0 ra rb rc ps) x [] ra rb, 0)) (.nn)))) (.nn)
noncomputable def g41 (ra rb rc : Int) (ps : List (List AV)) (x : Int) : Bool := (t41 ra rb rc ps x).g
noncomputable def w41_0 (ra rb rc : Int) (ps : List (List AV)) (x : Int) : List (List AV) := (t41 ra rb rc ps x).val.1
noncomputable def w41_1 (ra rb rc : Int) (ps : List (List AV)) (x : Int) : Int := (t41 ra rb rc ps x).val.2
noncomputable def a41 (ra rb rc : Int) (ps : List (List AV)) (x : Int) : Tr AV :=
  .cn (g67 ra rb rc ps) (.cn (w67_1 ra rb rc ps == 0) (.cn (inb ra (w67_0 ra rb rc ps).length) (.cn (inb rb 10) (.cn (ctsAt (cts Try.prog 91) (0 + rb.toNat * 1) (cts Try.prog 3)) (.cn (g57 x 0 (IntKind.i64.wrap (toI (((w67_0 ra rb rc ps).getD ra.toNat []).getD (0 + rb.toNat * 1) AV.u) - 1))) (.cn (!w57_0 x 0 (IntKind.i64.wrap (toI (((w67_0 ra rb rc ps).getD ra.toNat []).getD (0 + rb.toNat * 1) AV.u) - 1))) (.lf (.tup [.nl, .i .i64 1])) (.cn (w67_1 ra rb rc ps != 0) (.lf (.tup [.nl, .i .i64 (w67_1 ra rb rc ps)])) (.cn (i41a_0 ra rb rc ps 0 (w67_0 ra rb rc ps) x [] ra rb) (.lf (.tup [.rs 3 (v41a_0_t8 ra rb rc ps 0 (w67_0 ra rb rc ps) x [] ra rb), .i .i64 0])) (.nn)))) (.nn)) (.nn)) (.nn)) (.nn)) (.cn (w67_1 ra rb rc ps != 0) (.lf (.tup [.nl, .i .i64 (w67_1 ra rb rc ps)])) (.cn (i41a_0 ra rb rc ps 0 (w67_0 ra rb rc ps) x [] ra rb) (.lf (.tup [.rs 3 (v41a_0_t8 ra rb rc ps 0 (w67_0 ra rb rc ps) x [] ra rb), .i .i64 0])) (.nn)))) (.nn)
theorem eq41 (ra rb rc : Int) (ps : List (List AV)) (x : Int) : evF Try.prog Sh (ro 41) L41 Try.f41 [.agg [.i .i64 ra, .i .i64 rb, .i .i64 rc, .rs 31 ps], .i .i64 x] = (a41 ra rb rc ps x).opt id := by kernel_rfl
theorem wk41 (ra rb rc : Int) (ps : List (List AV)) (x : Int) : (a41 ra rb rc ps x).map (wkV [some 3, none]) = (t41 ra rb rc ps x).map (fun (x : (List (List AV)) × (Int)) => (.tup [.rs 3 x.1, .i .i64 x.2] : AV)) := by kernel_rfl
theorem con41 (ra rb rc : Int) (ps : List (List AV)) (x : Int) (h : g41 ra rb rc ps x = true) : Con Try.prog 41 [.agg [.i .i64 ra, .i .i64 rb, .i .i64 rc, .rs 31 ps], .i .i64 x] [] (.tup [.rs 3 (w41_0 ra rb rc ps x), .i .i64 (w41_1 ra rb rc ps x)]) [] := by
  obtain ⟨v, h1, h2⟩ := Tr.soundW (eq41 ra rb rc ps x) (wk41 ra rb rc ps x) h
  have := (con_of Sh_ok mixed Try.func41 (c := c41) rfl (names 41 _ Try.func41) lok41 h1).wk [some 3, none]
  rw [h2] at this
  exact this
noncomputable def e41 (args : List AV) (rows : List Blk) : Option (Bool × AV × List Blk) := match args, rows with
  | [.agg [.i .i64 ra, .i .i64 rb, .i .i64 rc, .rs 31 ps], .i .i64 x], [] => some (g41 ra rb rc ps x, .tup [.rs 3 (w41_0 ra rb rc ps x), .i .i64 (w41_1 ra rb rc ps x)], [])
  | _, _ => none
theorem e41_ok (args : List AV) (rows : List Blk) (pre : Bool) (v : AV) (rows' : List Blk) (h : e41 args rows = some (pre, v, rows')) (hp : pre = true) : Con Try.prog 41 args rows v rows' := by
  unfold e41 at h
  split at h
  · cases h; exact con41 _ _ _ _ _ hp
  · cases h
-- SPEC 41
end Go.Proofs.Ytgifjphinkbcaaa

set_option maxRecDepth 100000
set_option linter.unusedVariables false
namespace Go.Proofs.Ytgifjphinkbcaaa
open Go Go.Ev
/-! ### Nth -/
theorem piece40 {ra rb rc t5 : Int} {ps T9 : List (List AV)} {c N n h : Nat} {x : Int} (hps : okPs ps) (hN : N ≤ 2000) (hn : 0 < n) (hnN : n ≤ N) (hh : h < 10) (h9 : T9.length ≤ 4000) (hx : 0 ≤ x) (hx2 : x < cnt ps c n h) (hs : cnt ps c n h ≤ 1000000000000000) :
    ∃ i, i < ps.length ∧ sm ps c n h i ≤ x ∧ x < sm ps c n h (i + 1) ∧
      r40aa ra rb rc ps t5 (tab (N + 1) (tabs ps c N)) T9 ps (ps.length : Int) (n : Int) (h : Int) x 0 = some (.x0 (x - sm ps c n h i) (T9 ++ [[.i .i64 (i : Int)]]) (i : Int) ((n - wd ps i : Nat) : Int) (rt ps i : Int)) := by
  have hl := hps.1
  have run : ∃ y, r40aa ra rb rc ps t5 (tab (N + 1) (tabs ps c N)) T9 ps (ps.length : Int) (n : Int) (h : Int) x 0 = some y ∧ (∃ i, i < ps.length ∧ sm ps c n h i ≤ x ∧ x < sm ps c n h (i + 1) ∧ y = .x0 (x - sm ps c n h i) (T9 ++ [[.i .i64 (i : Int)]]) (i : Int) ((n - wd ps i : Nat) : Int) (rt ps i : Int)) := by
    unfold r40aa
    refine run_for (S := Int) ps.length (fun k s => (⟨s, (k : Int)⟩ : S40aa)) (fun k s => s = x - sm ps c n h k ∧ sm ps c n h k ≤ x) (fun _ _ (y : T40aa) => ∃ i, i < ps.length ∧ sm ps c n h i ≤ x ∧ x < sm ps c n h (i + 1) ∧ y = .x0 (x - sm ps c n h i) (T9 ++ [[.i .i64 (i : Int)]]) (i : Int) ((n - wd ps i : Nat) : Int) (rt ps i : Int)) (fun k s hk hi => ?_) (fun s hi => ?_) 0 x (Nat.zero_le _) ⟨by rw [sm_zero]; omega, hx⟩
    · obtain ⟨rfl, hle⟩ := hi
      obtain ⟨p1, p2, p3, p4, p5, p6, p7⟩ := pc_nat hps hk
      have hsu := sm_succ (c := c) (h := h) hps hn hk hs
      have hsl := sm_le (c := c) (h := h) hps hn k
      show (∃ s', stp40aa ra rb rc ps t5 (tab (N + 1) (tabs ps c N)) T9 ps (ps.length : Int) (n : Int) (h : Int) (x - sm ps c n h k) (k : Int) = _ ∧ _) ∨ ∃ y, stp40aa ra rb rc ps t5 (tab (N + 1) (tabs ps c N)) T9 ps (ps.length : Int) (n : Int) (h : Int) (x - sm ps c n h k) (k : Int) = _ ∧ _
      unfold stp40aa
      rw [Int.toNat_natCast]
      simp only [lt_true hk, inb_true hk, cond_true, wrap_succ (show k < 9223372036854775807 by omega), g71_true, w71_all, p1, p2, p3]
      by_cases hc : lf ps k = h ∧ wd ps k ≤ n
      · rw [if_pos hc] at hsu
        have e1 : ((lf ps k : Int) == (h : Int) && decide ((wd ps k : Int) ≤ (n : Int))) = true := by
          rw [Bool.and_eq_true, decide_eq_true_eq, beq_iff_eq]
          omega
        have e2 : IntKind.i64.wrap ((n : Int) - (wd ps k : Int)) = ((n - wd ps k : Nat) : Int) := (wrap64 (by omega) (by omega)).trans (by omega)
        obtain ⟨t1, t2⟩ := tab_cnt (ps := ps) (c := c) (N := N) (n := n - wd ps k) (h := rt ps k) (by omega) p7
        simp only [e1, e2, t1, t2, Bool.not_true, cond_false, cond_true]
        have hco := cnt_ok ps c (n - wd ps k) (rt ps k)
        by_cases hge : x - sm ps c n h k ≥ cnt ps c (n - wd ps k) (rt ps k)
        · left
          rw [decide_eq_true hge, wrap64 (by omega) (by omega)]
          exact ⟨x - sm ps c n h (k + 1), by rw [cond_true, hsu, Int.sub_sub], ⟨rfl, by omega⟩, fun y hy => hy⟩
        · right
          rw [decide_eq_false hge]
          have l1 : (T9.length + [[AV.i IntKind.i64 (k : Int)]].length).ble 9223372036854775807 = true := by
            rw [Nat.ble_eq]
            show T9.length + 1 ≤ _
            omega
          have l2 : ((T9.length + [[AV.i IntKind.i64 (k : Int)]].length) * 8).ble 140737488355328 = true := by
            rw [Nat.ble_eq]
            show (T9.length + 1) * 8 ≤ _
            omega
          rw [l1, l2]
          exact ⟨_, rfl, k, hk, hle, by omega, rfl⟩
      · rw [if_neg hc] at hsu
        have e1 : ((lf ps k : Int) == (h : Int) && decide ((wd ps k : Int) ≤ (n : Int))) = false := by
          rw [Bool.eq_false_iff]
          intro h'
          rw [Bool.and_eq_true, decide_eq_true_eq, beq_iff_eq] at h'
          exact hc (by omega)
        rw [e1]
        left
        exact ⟨x - sm ps c n h (k + 1), by rw [hsu, Int.add_zero]; rfl, ⟨rfl, by omega⟩, fun y hy => hy⟩
    · have := sm_len (c := c) (h := h) hps hn
      omega
  obtain ⟨y, h1, i, h2, h3, h4, h5⟩ := run
  exact ⟨i, h2, h3, h4, by rw [h1, h5]⟩
theorem piece41 {ra rb rc t5 : Int} {ps T9 : List (List AV)} {c N n h : Nat} {x : Int} (hps : okPs ps) (hN : N ≤ 2000) (hn : 0 < n) (hnN : n ≤ N) (hh : h < 10) (h9 : T9.length ≤ 4000) (hx : 0 ≤ x) (hx2 : x < cnt ps c n h) (hs : cnt ps c n h ≤ 1000000000000000) :
    ∃ i, i < ps.length ∧ sm ps c n h i ≤ x ∧ x < sm ps c n h (i + 1) ∧
      r41aa ra rb rc ps t5 (tab (N + 1) (tabs ps c N)) T9 (n : Int) (h : Int) x 0 = some (.x0 (x - sm ps c n h i) (T9 ++ [[.i .i64 (i : Int)]]) ((n - wd ps i : Nat) : Int) (rt ps i : Int) (i : Int)) := by
  have hl := hps.1
  have run : ∃ y, r41aa ra rb rc ps t5 (tab (N + 1) (tabs ps c N)) T9 (n : Int) (h : Int) x 0 = some y ∧ (∃ i, i < ps.length ∧ sm ps c n h i ≤ x ∧ x < sm ps c n h (i + 1) ∧ y = .x0 (x - sm ps c n h i) (T9 ++ [[.i .i64 (i : Int)]]) ((n - wd ps i : Nat) : Int) (rt ps i : Int) (i : Int)) := by
    unfold r41aa
    refine run_for (S := Int) ps.length (fun k s => (⟨s, (k : Int)⟩ : S41aa)) (fun k s => s = x - sm ps c n h k ∧ sm ps c n h k ≤ x) (fun _ _ (y : T41aa) => ∃ i, i < ps.length ∧ sm ps c n h i ≤ x ∧ x < sm ps c n h (i + 1) ∧ y = .x0 (x - sm ps c n h i) (T9 ++ [[.i .i64 (i : Int)]]) ((n - wd ps i : Nat) : Int) (rt ps i : Int) (i : Int)) (fun k s hk hi => ?_) (fun s hi => ?_) 0 x (Nat.zero_le _) ⟨by rw [sm_zero]; omega, hx⟩
    · obtain ⟨rfl, hle⟩ := hi
      obtain ⟨p1, p2, p3, p4, p5, p6, p7⟩ := pc_nat hps hk
      have hsu := sm_succ (c := c) (h := h) hps hn hk hs
      have hsl := sm_le (c := c) (h := h) hps hn k
      show (∃ s', stp41aa ra rb rc ps t5 (tab (N + 1) (tabs ps c N)) T9 (n : Int) (h : Int) (x - sm ps c n h k) (k : Int) = _ ∧ _) ∨ ∃ y, stp41aa ra rb rc ps t5 (tab (N + 1) (tabs ps c N)) T9 (n : Int) (h : Int) (x - sm ps c n h k) (k : Int) = _ ∧ _
      unfold stp41aa
      rw [Int.toNat_natCast]
      simp only [lt_true hk, inb_true hk, cond_true, wrap_succ (show k < 9223372036854775807 by omega), p1, p2, p3]
      by_cases hA : lf ps k = h
      · have e1 : ((lf ps k : Int) != (h : Int)) = false := by simp [hA]
        rw [e1]
        by_cases hW : wd ps k ≤ n
        · have hd : decide ((wd ps k : Int) > (n : Int)) = false := decide_eq_false (by omega)
          rw [if_pos ⟨hA, hW⟩] at hsu
          have e2 : IntKind.i64.wrap ((n : Int) - (wd ps k : Int)) = ((n - wd ps k : Nat) : Int) := (wrap64 (by omega) (by omega)).trans (by omega)
          have cc := cts91 p7
          simp only [Int.toNat_natCast, Nat.zero_add, Nat.mul_one] at cc
          rw [hd, e2]
          simp only [cond_false, tab_len, inb_true (show n - wd ps k < N + 1 by omega), inb_true p7, Int.toNat_natCast, Nat.zero_add, Nat.mul_one, cc, cond_true, tab_toI (ps := ps) (c := c) (show n - wd ps k ≤ N by omega) p7]
          have hco := cnt_ok ps c (n - wd ps k) (rt ps k)
          by_cases hlt : x - sm ps c n h k < cnt ps c (n - wd ps k) (rt ps k)
          · right
            have l1 : (T9.length + [[AV.i IntKind.i64 (k : Int)]].length).ble 9223372036854775807 = true := by
              rw [Nat.ble_eq]
              show T9.length + 1 ≤ _
              omega
            have l2 : ((T9.length + [[AV.i IntKind.i64 (k : Int)]].length) * 8).ble 140737488355328 = true := by
              rw [Nat.ble_eq]
              show (T9.length + 1) * 8 ≤ _
              omega
            rw [l1, l2]
            refine ⟨_, by rw [decide_eq_true hlt]; rfl, k, hk, hle, by omega, rfl⟩
          · left
            rw [wrap64 (by omega) (by omega)]
            exact ⟨x - sm ps c n h (k + 1), by rw [decide_eq_false hlt, cond_false, hsu, Int.sub_sub], ⟨rfl, by omega⟩, fun y hy => hy⟩
        · have hd : decide ((wd ps k : Int) > (n : Int)) = true := decide_eq_true (by omega)
          rw [if_neg (fun hc => hW hc.2)] at hsu
          rw [hd]
          left
          exact ⟨x - sm ps c n h (k + 1), by rw [hsu, Int.add_zero]; rfl, ⟨rfl, by omega⟩, fun y hy => hy⟩
      · rw [if_neg (fun hc => hA hc.1)] at hsu
        have e1 : ((lf ps k : Int) != (h : Int)) = true := by
          rw [bne_iff_ne]
          omega
        rw [e1]
        left
        exact ⟨x - sm ps c n h (k + 1), by rw [hsu, Int.add_zero]; rfl, ⟨rfl, by omega⟩, fun y hy => hy⟩
    · have := sm_len (c := c) (h := h) hps hn
      omega
  obtain ⟨y, h1, i, h2, h3, h4, h5⟩ := run
  exact ⟨i, h2, h3, h4, by rw [h1, h5]⟩
theorem cnt_pos_zero {ps : List (List AV)} {c h : Nat} {x : Int} (h1 : 0 ≤ x) (h2 : x < cnt ps c 0 h) : h = c ∧ x = 0 := by
  rw [cnt_zero] at h2
  split at h2
  · exact ⟨by assumption, by omega⟩
  · omega
theorem nth40 {ra rb rc t5 : Int} {ps : List (List AV)} {c N h : Nat} {x : Int} (hps : okPs ps) (hN : N ≤ 2000) (hh : h < 10) (hx : 0 ≤ x) (hx2 : x < cnt ps c N h) (hs : cnt ps c N h ≤ 1000000000000000) :
    ∃ row, NthR ps c N h x row ∧ ∃ a b, r40a ra rb rc ps t5 (tab (N + 1) (tabs ps c N)) x [] (N : Int) (h : Int) = some (.x0 a (rowAV row) 0 b) := by
  have run : ∃ y, r40a ra rb rc ps t5 (tab (N + 1) (tabs ps c N)) x [] (N : Int) (h : Int) = some y ∧ (∃ row, NthR ps c N h x row ∧ ∃ a b, y = .x0 a ([] ++ rowAV row) 0 b) := by
    unfold r40a
    refine run_while (S := Int × List (List AV) × Nat × Nat) (fun s => s.2.2.1) (fun s => (⟨s.1, s.2.1, (s.2.2.1 : Int), (s.2.2.2 : Int)⟩ : S40a)) (fun s => s.2.2.1 ≤ N ∧ s.2.2.2 < 10 ∧ s.2.1.length + s.2.2.1 ≤ 2000 ∧ 0 ≤ s.1 ∧ s.1 < cnt ps c s.2.2.1 s.2.2.2 ∧ cnt ps c s.2.2.1 s.2.2.2 ≤ 1000000000000000)
      (fun s (y : T40a) => ∃ row, NthR ps c s.2.2.1 s.2.2.2 s.1 row ∧ ∃ a b, y = .x0 a (s.2.1 ++ rowAV row) 0 b) (fun s hi => ?_) (x, [], N, h) ⟨Nat.le_refl _, hh, by show 0 + N ≤ 2000; omega, hx, hx2, hs⟩
    obtain ⟨x, T9, n, h⟩ := s
    obtain ⟨i1, i2, i3, i4, i5, i6⟩ := hi
    simp only at i1 i2 i3 i4 i5 i6
    show (∃ s', stp40a ra rb rc ps t5 (tab (N + 1) (tabs ps c N)) x T9 (n : Int) (h : Int) = _ ∧ _) ∨ ∃ y, stp40a ra rb rc ps t5 (tab (N + 1) (tabs ps c N)) x T9 (n : Int) (h : Int) = _ ∧ _
    unfold stp40a
    rcases Nat.eq_zero_or_pos n with rfl | hn
    · right
      obtain ⟨rfl, rfl⟩ := cnt_pos_zero i4 i5
      exact ⟨_, rfl, [], .nil, 0, (h : Int), by rw [show rowAV [] = [] from rfl, List.append_nil]; rfl⟩
    · left
      have d : decide ((n : Int) > 0) = true := decide_eq_true (by omega)
      obtain ⟨i, j1, j2, j3, j4⟩ := piece40 (ra := ra) (rb := rb) (rc := rc) (t5 := t5) (T9 := T9) hps hN hn i1 i2 (by omega) i4 i5 i6
      obtain ⟨q1, q2, q3, q4⟩ := sm_fits hps hn j1 i6 j2 j3
      obtain ⟨p1, p2, p3, p4, p5, p6, p7⟩ := pc_nat hps j1
      unfold i40aa_0 v40aa_0_t1 v40aa_0_t9' v40aa_0_m14_0' v40aa_0_m14_1'
      rw [j4, d]
      refine ⟨(x - sm ps c n h i, T9 ++ [[.i .i64 (i : Int)]], n - wd ps i, rt ps i), rfl, ⟨by show n - wd ps i ≤ N; omega, p7, ?_, q2, q3, q4⟩, ?_, ?_⟩
      · show (T9 ++ [[AV.i .i64 (i : Int)]]).length + (n - wd ps i) ≤ 2000
        rw [List.length_append]
        show T9.length + 1 + (n - wd ps i) ≤ 2000
        omega
      · show n - wd ps i < n
        omega
      · rintro y ⟨row, hr, a, b, rfl⟩
        refine ⟨i :: row, .cons hn j1 j2 j3 hr, a, b, ?_⟩
        show T40a.x0 a ((T9 ++ [[AV.i .i64 (i : Int)]]) ++ rowAV row) 0 b = _
        rw [List.append_assoc]
        rfl
  obtain ⟨y, h1, row, h2, a, b, h3⟩ := run
  exact ⟨row, h2, a, b, by rw [h1, h3]; rfl⟩
theorem nth41 {ra rb rc t5 : Int} {ps : List (List AV)} {c N h : Nat} {x : Int} (hps : okPs ps) (hN : N ≤ 2000) (hh : h < 10) (hx : 0 ≤ x) (hx2 : x < cnt ps c N h) (hs : cnt ps c N h ≤ 1000000000000000) :
    ∃ row, NthR ps c N h x row ∧ ∃ a b, r41a ra rb rc ps t5 (tab (N + 1) (tabs ps c N)) x [] (N : Int) (h : Int) = some (.x0 a (rowAV row) 0 b) := by
  have run : ∃ y, r41a ra rb rc ps t5 (tab (N + 1) (tabs ps c N)) x [] (N : Int) (h : Int) = some y ∧ (∃ row, NthR ps c N h x row ∧ ∃ a b, y = .x0 a ([] ++ rowAV row) 0 b) := by
    unfold r41a
    refine run_while (S := Int × List (List AV) × Nat × Nat) (fun s => s.2.2.1) (fun s => (⟨s.1, s.2.1, (s.2.2.1 : Int), (s.2.2.2 : Int)⟩ : S41a)) (fun s => s.2.2.1 ≤ N ∧ s.2.2.2 < 10 ∧ s.2.1.length + s.2.2.1 ≤ 2000 ∧ 0 ≤ s.1 ∧ s.1 < cnt ps c s.2.2.1 s.2.2.2 ∧ cnt ps c s.2.2.1 s.2.2.2 ≤ 1000000000000000)
      (fun s (y : T41a) => ∃ row, NthR ps c s.2.2.1 s.2.2.2 s.1 row ∧ ∃ a b, y = .x0 a (s.2.1 ++ rowAV row) 0 b) (fun s hi => ?_) (x, [], N, h) ⟨Nat.le_refl _, hh, by show 0 + N ≤ 2000; omega, hx, hx2, hs⟩
    obtain ⟨x, T9, n, h⟩ := s
    obtain ⟨i1, i2, i3, i4, i5, i6⟩ := hi
    simp only at i1 i2 i3 i4 i5 i6
    show (∃ s', stp41a ra rb rc ps t5 (tab (N + 1) (tabs ps c N)) x T9 (n : Int) (h : Int) = _ ∧ _) ∨ ∃ y, stp41a ra rb rc ps t5 (tab (N + 1) (tabs ps c N)) x T9 (n : Int) (h : Int) = _ ∧ _
    unfold stp41a
    rcases Nat.eq_zero_or_pos n with rfl | hn
    · right
      obtain ⟨rfl, rfl⟩ := cnt_pos_zero i4 i5
      exact ⟨_, rfl, [], .nil, 0, (h : Int), by rw [show rowAV [] = [] from rfl, List.append_nil]; rfl⟩
    · left
      have d : decide ((n : Int) > 0) = true := decide_eq_true (by omega)
      obtain ⟨i, j1, j2, j3, j4⟩ := piece41 (ra := ra) (rb := rb) (rc := rc) (t5 := t5) (T9 := T9) hps hN hn i1 i2 (by omega) i4 i5 i6
      obtain ⟨q1, q2, q3, q4⟩ := sm_fits hps hn j1 i6 j2 j3
      obtain ⟨p1, p2, p3, p4, p5, p6, p7⟩ := pc_nat hps j1
      unfold i41aa_0 v41aa_0_t1 v41aa_0_t8' v41aa_0_t9' v41aa_0_t10'
      rw [j4, d]
      refine ⟨(x - sm ps c n h i, T9 ++ [[.i .i64 (i : Int)]], n - wd ps i, rt ps i), rfl, ⟨by show n - wd ps i ≤ N; omega, p7, ?_, q2, q3, q4⟩, ?_, ?_⟩
      · show (T9 ++ [[AV.i .i64 (i : Int)]]).length + (n - wd ps i) ≤ 2000
        rw [List.length_append]
        show T9.length + 1 + (n - wd ps i) ≤ 2000
        omega
      · show n - wd ps i < n
        omega
      · rintro y ⟨row, hr, a, b, rfl⟩
        refine ⟨i :: row, .cons hn j1 j2 j3 hr, a, b, ?_⟩
        show T41a.x0 a ((T9 ++ [[AV.i .i64 (i : Int)]]) ++ rowAV row) 0 b = _
        rw [List.append_assoc]
        rfl
  obtain ⟨y, h1, row, h2, a, b, h3⟩ := run
  exact ⟨row, h2, a, b, by rw [h1, h3]; rfl⟩
end Go.Proofs.Ytgifjphinkbcaaa

set_option maxRecDepth 100000
set_option linter.unusedVariables false
namespace Go.Proofs.Ytgifjphinkbcaaa
open Go Go.Ev

/-! ### ref Ways -/
noncomputable def c36 : Code := match Try.f36.body with | some c => c | _ => .skip
theorem lok36 : LOK Try.prog Sh (ro 36) (fun _ _ => none) 0 false c36 [] :=
  lok_lo (fun _ _ _ _ _ _ _ h _ => by cases h) c36 [] false (locate_nil _) (by kernel_rfl)
noncomputable def t36 (ra rb rc : Int) (ps : List (List AV)) : Tr ((Int) × (Int)) :=
  .cn (g67 ra rb rc ps) (.cn (w67_1 ra rb rc ps != 0) (.lf (0, w67_1 ra rb rc ps)) (.cn (inb ra (w67_0 ra rb rc ps).length) (.cn (inb rb 10) (.cn (ctsAt (cts Try.prog 91) (0 + rb.toNat * 1) (cts Try.prog 3)) (.lf (toI (((w67_0 ra rb rc ps).getD ra.toNat []).getD (0 + rb.toNat * 1) AV.u), 0)) (.nn)) (.nn)) (.nn))) (.nn)
noncomputable def g36 (ra rb rc : Int) (ps : List (List AV)) : Bool := (t36 ra rb rc ps).g
noncomputable def w36_0 (ra rb rc : Int) (ps : List (List AV)) : Int := (t36 ra rb rc ps).val.1
noncomputable def w36_1 (ra rb rc : Int) (ps : List (List AV)) : Int := (t36 ra rb rc ps).val.2
theorem eq36 (ra rb rc : Int) (ps : List (List AV)) : evF Try.prog Sh (ro 36) (fun _ _ => none) Try.f36 [.agg [.i .i64 ra, .i .i64 rb, .i .i64 rc, .rs 31 ps]] = (t36 ra rb rc ps).opt (fun (x : (Int) × (Int)) => (.tup [.i .i64 x.1, .i .i64 x.2] : AV)) := by kernel_rfl
theorem con36 (ra rb rc : Int) (ps : List (List AV)) (h : g36 ra rb rc ps = true) : Con Try.prog 36 [.agg [.i .i64 ra, .i .i64 rb, .i .i64 rc, .rs 31 ps]] [] (.tup [.i .i64 (w36_0 ra rb rc ps), .i .i64 (w36_1 ra rb rc ps)]) [] :=
  con_of Sh_ok mixed Try.func36 (c := c36) rfl (names 36 _ Try.func36) lok36 ((eq36 ra rb rc ps).trans (Tr.sound _ _ h))
noncomputable def e36 (args : List AV) (rows : List Blk) : Option (Bool × AV × List Blk) := match args, rows with
  | [.agg [.i .i64 ra, .i .i64 rb, .i .i64 rc, .rs 31 ps]], [] => some (g36 ra rb rc ps, .tup [.i .i64 (w36_0 ra rb rc ps), .i .i64 (w36_1 ra rb rc ps)], [])
  | _, _ => none
theorem e36_ok (args : List AV) (rows : List Blk) (pre : Bool) (v : AV) (rows' : List Blk) (h : e36 args rows = some (pre, v, rows')) (hp : pre = true) : Con Try.prog 36 args rows v rows' := by
  unfold e36 at h
  split at h
  · cases h; exact con36 _ _ _ _ hp
  · cases h
-- SPEC 36
end Go.Proofs.Ytgifjphinkbcaaa

set_option maxRecDepth 100000
set_option linter.unusedVariables false
namespace Go.Proofs.Ytgifjphinkbcaaa
open Go Go.Ev
/-! ### The counted, and what comes of it -/
theorem fine_nat {ra rb rc : Int} {ps : List (List AV)} (h : Fine ra rb rc ps) : ∃ n b c : Nat, ra = (n : Int) ∧ rb = (b : Int) ∧ rc = (c : Int) ∧ n ≤ 2000 ∧ b < 10 ∧ c < 10 := by
  obtain ⟨⟨a1, a2⟩, ⟨b1, b2⟩, ⟨c1, c2⟩, hps⟩ := h
  exact ⟨ra.toNat, rb.toNat, rc.toNat, by omega, by omega, by omega, by omega, by omega, by omega⟩
theorem counted_err {ra rb rc : Int} {ps : List (List AV)} (h0 : w29_0 ra rb rc ps ≠ 0) :
    (g50 ra rb rc ps = true ∧ w50_1 ra rb rc ps = w29_0 ra rb rc ps) ∧ g67 ra rb rc ps = true ∧ w67_1 ra rb rc ps = w29_0 ra rb rc ps := by
  obtain ⟨c1, c2, _⟩ := check_eq ra rb rc ps
  have hz : (w29_0 ra rb rc ps != 0) = true := by simpa using h0
  unfold g50 w50_1 t50 g67 w67_1 t67
  rw [c1, c2, g29_true, hz]
  exact ⟨⟨rfl, rfl⟩, rfl, rfl⟩
theorem counted_val {ps : List (List AV)} {n b c : Nat} (hps : okPs ps) (hn : n ≤ 2000) (hb : b < 10) (hc : c < 10) (hw : w29_0 (n : Int) (b : Int) (c : Int) ps = 0) :
    g50 (n : Int) (b : Int) (c : Int) ps = true ∧ g67 (n : Int) (b : Int) (c : Int) ps = true ∧
    ((cnt ps c n b > 1000000000000000 ∧ w50_1 (n : Int) (b : Int) (c : Int) ps = 3 ∧ w67_1 (n : Int) (b : Int) (c : Int) ps = 3) ∨
     (cnt ps c n b ≤ 1000000000000000 ∧ w50_1 (n : Int) (b : Int) (c : Int) ps = 0 ∧ w50_0 (n : Int) (b : Int) (c : Int) ps = tab (n + 1) (tabs ps c n) ∧ w67_1 (n : Int) (b : Int) (c : Int) ps = 0 ∧ w67_0 (n : Int) (b : Int) (c : Int) ps = tab (n + 1) (tabs ps c n))) := by
  obtain ⟨c1, c2⟩ := count_val (rb := (b : Int)) hps hn hc
  obtain ⟨d1, d2⟩ := table_val (rb := (b : Int)) hps hn hc
  obtain ⟨o1, o2⟩ := tab_cnt (ps := ps) (c := c) (N := n) (n := n) (h := b) (Nat.le_refl _) hb
  have o3 := tab_toI (ps := ps) (c := c) (N := n) (n := n) (h := b) (Nat.le_refl _) hb
  obtain ⟨k1, k2, _⟩ := check_eq (n : Int) (b : Int) (c : Int) ps
  have p0 : w52_0 (n : Int) (b : Int) (c : Int) ps = (n : Int) := rfl
  have p1 : w52_1 (n : Int) (b : Int) (c : Int) ps = (b : Int) := rfl
  have hz : (w29_0 (n : Int) (b : Int) (c : Int) ps != 0) = false := by simp [hw]
  have cb := cts91 hb
  simp only [Int.toNat_natCast, Nat.zero_add, Nat.mul_one] at cb
  have ib : inb (b : Int) 10 = true := by simp [inb_nat, hb]
  have i0 : inb (n : Int) (n + 1) = true := by simp [inb_nat]
  unfold g50 g67 w50_1 w67_1 w50_0 w67_0 t50 t67
  simp only [g29_true, k1, k2, hz, c1, c2, d1, d2, p0, p1, o1, o2, tab_len, ib, i0, cb, Int.toNat_natCast, Nat.zero_add, Nat.mul_one, o3]
  cases hd : decide (cnt ps c n b > 1000000000000000) with
  | true => exact ⟨rfl, rfl, .inl ⟨of_decide_eq_true hd, rfl, rfl⟩⟩
  | false => exact ⟨rfl, rfl, .inr ⟨by have := of_decide_eq_false hd; omega, rfl, rfl, rfl, rfl⟩⟩
theorem ways_nat {ps : List (List AV)} {n b c : Nat} (hps : okPs ps) (hn : n ≤ 2000) (hb : b < 10) (hc : c < 10) (hw : w29_0 (n : Int) (b : Int) (c : Int) ps = 0) :
    g20 (n : Int) (b : Int) (c : Int) ps = true ∧ ((cnt ps c n b > 1000000000000000 ∧ w20_1 (n : Int) (b : Int) (c : Int) ps = 3 ∧ w20_0 (n : Int) (b : Int) (c : Int) ps = 0) ∨ (cnt ps c n b ≤ 1000000000000000 ∧ w20_1 (n : Int) (b : Int) (c : Int) ps = 0 ∧ w20_0 (n : Int) (b : Int) (c : Int) ps = cnt ps c n b)) := ways_val hps hn hb hc hw
/-- The row with a number. -/
theorem nth_err {ra rb rc x : Int} {ps : List (List AV)} (h0 : w50_1 ra rb rc ps ≠ 0) (hg : g50 ra rb rc ps = true) (hg' : g67 ra rb rc ps = true) (he : w67_1 ra rb rc ps = w50_1 ra rb rc ps) :
    (g40 ra rb rc ps x = true ∧ w40_1 ra rb rc ps x = w50_1 ra rb rc ps ∧ w40_0 ra rb rc ps x = []) ∧ g41 ra rb rc ps x = true ∧ w41_1 ra rb rc ps x = w50_1 ra rb rc ps ∧ w41_0 ra rb rc ps x = [] := by
  have hz : (w50_1 ra rb rc ps != 0) = true := by simpa using h0
  have hz2 : (w50_1 ra rb rc ps == 0) = false := by simpa using h0
  unfold g40 w40_1 w40_0 t40 g41 w41_1 w41_0 t41
  rw [hg, hg', he, hz, hz2]
  exact ⟨⟨rfl, rfl, rfl⟩, rfl, rfl, rfl⟩
theorem nth_out {ps : List (List AV)} {n b c : Nat} {x : Int} (hps : okPs ps) (hn : n ≤ 2000) (hb : b < 10) (hc : c < 10) (hw : w29_0 (n : Int) (b : Int) (c : Int) ps = 0) (hs : cnt ps c n b ≤ 1000000000000000) (hx : ¬ (0 ≤ x ∧ x < cnt ps c n b)) :
    (g40 (n : Int) (b : Int) (c : Int) ps x = true ∧ w40_1 (n : Int) (b : Int) (c : Int) ps x = 1 ∧ w40_0 (n : Int) (b : Int) (c : Int) ps x = []) ∧ g41 (n : Int) (b : Int) (c : Int) ps x = true ∧ w41_1 (n : Int) (b : Int) (c : Int) ps x = 1 ∧ w41_0 (n : Int) (b : Int) (c : Int) ps x = [] := by
  obtain ⟨g1, g2, g3⟩ := counted_val hps hn hb hc hw
  rcases g3 with ⟨h1, _⟩ | ⟨_, h1, h2, h3, h4⟩
  · omega
  obtain ⟨o1, o2⟩ := tab_cnt (ps := ps) (c := c) (N := n) (n := n) (h := b) (Nat.le_refl _) hb
  have o3 := tab_toI (ps := ps) (c := c) (N := n) (n := n) (h := b) (Nat.le_refl _) hb
  have p0 : w52_0 (n : Int) (b : Int) (c : Int) ps = (n : Int) := rfl
  have p1 : w52_1 (n : Int) (b : Int) (c : Int) ps = (b : Int) := rfl
  have cb := cts91 hb
  simp only [Int.toNat_natCast, Nat.zero_add, Nat.mul_one] at cb
  have ib : inb (b : Int) 10 = true := by simp [inb_nat, hb]
  have i0 : inb (n : Int) (n + 1) = true := by simp [inb_nat]
  have hco := cnt_ok ps c n b
  have ew : IntKind.i64.wrap (cnt ps c n b - 1) = cnt ps c n b - 1 := wrap64 (by omega) (by omega)
  have z1 : ((0 : Int) != 0) = false := by decide
  have z2 : ((0 : Int) == 0) = true := by decide
  have hd : (decide (0 ≤ x) && decide (x ≤ cnt ps c n b - 1)) = false := by
    rw [Bool.eq_false_iff]
    intro h
    rw [Bool.and_eq_true, decide_eq_true_eq, decide_eq_true_eq] at h
    omega
  unfold g40 w40_1 w40_0 t40 g41 w41_1 w41_0 t41
  simp only [g1, g2, h1, h2, h3, h4, z1, z2, p0, p1, o1, o2, tab_len, ib, i0, cb, Int.toNat_natCast, Nat.zero_add, Nat.mul_one, o3, ew, g55_true, (w57_eq _ _ _).1, g55_57, w55_eq, hd]
  exact ⟨⟨rfl, rfl, rfl⟩, rfl, rfl, rfl⟩
theorem nth_val {ps : List (List AV)} {n b c : Nat} {x : Int} (hps : okPs ps) (hn : n ≤ 2000) (hb : b < 10) (hc : c < 10) (hw : w29_0 (n : Int) (b : Int) (c : Int) ps = 0) (hs : cnt ps c n b ≤ 1000000000000000) (hx : 0 ≤ x ∧ x < cnt ps c n b) :
    ∃ row, NthR ps c n b x row ∧ (g40 (n : Int) (b : Int) (c : Int) ps x = true ∧ w40_1 (n : Int) (b : Int) (c : Int) ps x = 0 ∧ w40_0 (n : Int) (b : Int) (c : Int) ps x = rowAV row) ∧ g41 (n : Int) (b : Int) (c : Int) ps x = true ∧ w41_1 (n : Int) (b : Int) (c : Int) ps x = 0 ∧ w41_0 (n : Int) (b : Int) (c : Int) ps x = rowAV row := by
  obtain ⟨g1, g2, g3⟩ := counted_val hps hn hb hc hw
  rcases g3 with ⟨h1, _⟩ | ⟨_, h1, h2, h3, h4⟩
  · omega
  obtain ⟨o1, o2⟩ := tab_cnt (ps := ps) (c := c) (N := n) (n := n) (h := b) (Nat.le_refl _) hb
  have o3 := tab_toI (ps := ps) (c := c) (N := n) (n := n) (h := b) (Nat.le_refl _) hb
  have p0 : w52_0 (n : Int) (b : Int) (c : Int) ps = (n : Int) := rfl
  have p1 : w52_1 (n : Int) (b : Int) (c : Int) ps = (b : Int) := rfl
  have cb := cts91 hb
  simp only [Int.toNat_natCast, Nat.zero_add, Nat.mul_one] at cb
  have ib : inb (b : Int) 10 = true := by simp [inb_nat, hb]
  have i0 : inb (n : Int) (n + 1) = true := by simp [inb_nat]
  have hco := cnt_ok ps c n b
  have ew : IntKind.i64.wrap (cnt ps c n b - 1) = cnt ps c n b - 1 := wrap64 (by omega) (by omega)
  have z1 : ((0 : Int) != 0) = false := by decide
  have z2 : ((0 : Int) == 0) = true := by decide
  have hd : (decide (0 ≤ x) && decide (x ≤ cnt ps c n b - 1)) = true := by
    rw [Bool.and_eq_true, decide_eq_true_eq, decide_eq_true_eq]
    omega
  obtain ⟨row, hr, a1, a2, a3⟩ := nth40 (ra := (n : Int)) (rb := (b : Int)) (rc := (c : Int)) (t5 := 0) hps hn hb hx.1 hx.2 hs
  obtain ⟨row', hr', b1, b2, b3⟩ := nth41 (ra := (n : Int)) (rb := (b : Int)) (rc := (c : Int)) (t5 := 0) hps hn hb hx.1 hx.2 hs
  have : row' = row := NthR_uniq hps hr' hs hr
  subst this
  refine ⟨row', hr, ?_⟩
  unfold g40 w40_1 w40_0 t40 g41 w41_1 w41_0 t41
  simp only [g1, g2, h1, h2, h3, h4, z1, z2, p0, p1, o1, o2, tab_len, ib, i0, cb, Int.toNat_natCast, Nat.zero_add, Nat.mul_one, o3, ew, g55_true, (w57_eq _ _ _).1, g55_57, w55_eq, hd]
  unfold i40a_0 i41a_0 v40a_0_t9 v41a_0_t8
  rw [a3, b3]
  exact ⟨⟨rfl, rfl, rfl⟩, rfl, rfl, rfl⟩
end Go.Proofs.Ytgifjphinkbcaaa

set_option maxRecDepth 100000
set_option linter.unusedVariables false
namespace Go.Proofs.Ytgifjphinkbcaaa
open Go Go.Ev

/-! ### Rank -/
noncomputable def c42 : Code := match Try.f42.body with | some c => c | _ => .skip
noncomputable def lp42a : Code := loopAt c42 [true, true, true, true, true, false, true, false]
noncomputable def s42a (ra : Int) (rb : Int) (rc : Int) (ps : List (List AV)) (t4 : Int) (t5 : Int) (t6 : List (List AV)) (t8 : Int) (ws : List (List AV)) (t31 : Int) (t32 : Int) (m18_0 : Int) (m18_1 : Int) : St :=
  { t := [(2, .rp [.int .i64, .int .i64, .int .i64, .sl 31] [.i .i64 ra, .i .i64 rb, .i .i64 rc, .rs 31 ps] 0), (4, .i .i64 t4), (5, .i .i64 t5), (6, .rs 91 t6), (8, .i .i64 t8), (9, .p 18 0 0), (30, .rs 3 ws), (31, .i .i64 t31), (32, .i .i64 t32)], m := [(0, .dead), (1, .dead), (2, .dead), (3, .dead), (4, .dead), (5, .dead), (6, .dead), (7, .dead), (8, .dead), (9, .dead), (10, .dead), (11, .dead), (12, .dead), (13, .dead), (14, .dead), (15, .dead), (16, .dead), (17, .dead), (18, .row 78 [[.i .i64 m18_0, .i .i64 m18_1]])], nx := 19, nt := 70 }
noncomputable def lp42aa : Code := loopAt c42 [true, true, true, true, true, false, true, false, false, true, true, false, false, true, false, true, false]
noncomputable def s42aa (ra : Int) (rb : Int) (rc : Int) (ps : List (List AV)) (t4 : Int) (t5 : Int) (t6 : List (List AV)) (t8 : Int) (t11 : Int) (ws : List (List AV)) (t31 : Int) (t32 : Int) (t39 : List (List AV)) (t40 : Int) (t41 : Int) (m18_0 : Int) (m18_1 : Int) : St :=
  { t := [(2, .rp [.int .i64, .int .i64, .int .i64, .sl 31] [.i .i64 ra, .i .i64 rb, .i .i64 rc, .rs 31 ps] 0), (4, .i .i64 t4), (5, .i .i64 t5), (6, .rs 91 t6), (8, .i .i64 t8), (9, .p 18 0 0), (11, .i .i64 t11), (30, .rs 3 ws), (31, .i .i64 t31), (32, .i .i64 t32), (39, .rs 31 t39), (40, .i .i64 t40), (41, .i .i64 t41)], m := [(0, .dead), (1, .dead), (2, .dead), (3, .dead), (4, .dead), (5, .dead), (6, .dead), (7, .dead), (8, .dead), (9, .dead), (10, .dead), (11, .dead), (12, .dead), (13, .dead), (14, .dead), (15, .dead), (16, .dead), (17, .dead), (18, .row 78 [[.i .i64 m18_0, .i .i64 m18_1]])], nx := 19, nt := 70 }
structure S42aa where
  t8 : Int
  t41 : Int
inductive T42aa where
  | x0 (t8 : Int) (t41 : Int)
noncomputable def stp42aa (ra : Int) (rb : Int) (rc : Int) (ps : List (List AV)) (t4 : Int) (t5 : Int) (t6 : List (List AV)) (t11 : Int) (ws : List (List AV)) (t31 : Int) (t32 : Int) (t39 : List (List AV)) (t40 : Int) (m18_0 : Int) (m18_1 : Int) (t8 : Int) (t41 : Int) : Lp S42aa T42aa :=
  cond (decide (t41 < t40)) (cond (inb t41 t39.length) (cond (g71 m18_0 m18_1 (fS (t39.getD t41.toNat []) 0) (fI (t39.getD t41.toNat []) 1) (fI (t39.getD t41.toNat []) 2) (fI (t39.getD t41.toNat []) 3) (fI (t39.getD t41.toNat []) 4)) (cond (w71_2 m18_0 m18_1 (fS (t39.getD t41.toNat []) 0) (fI (t39.getD t41.toNat []) 1) (fI (t39.getD t41.toNat []) 2) (fI (t39.getD t41.toNat []) 3) (fI (t39.getD t41.toNat []) 4)) (cond (g51 t6 (w71_0 m18_0 m18_1 (fS (t39.getD t41.toNat []) 0) (fI (t39.getD t41.toNat []) 1) (fI (t39.getD t41.toNat []) 2) (fI (t39.getD t41.toNat []) 3) (fI (t39.getD t41.toNat []) 4)) (w71_1 m18_0 m18_1 (fS (t39.getD t41.toNat []) 0) (fI (t39.getD t41.toNat []) 1) (fI (t39.getD t41.toNat []) 2) (fI (t39.getD t41.toNat []) 3) (fI (t39.getD t41.toNat []) 4))) (.go ⟨IntKind.i64.wrap (t8 + w51_0 t6 (w71_0 m18_0 m18_1 (fS (t39.getD t41.toNat []) 0) (fI (t39.getD t41.toNat []) 1) (fI (t39.getD t41.toNat []) 2) (fI (t39.getD t41.toNat []) 3) (fI (t39.getD t41.toNat []) 4)) (w71_1 m18_0 m18_1 (fS (t39.getD t41.toNat []) 0) (fI (t39.getD t41.toNat []) 1) (fI (t39.getD t41.toNat []) 2) (fI (t39.getD t41.toNat []) 3) (fI (t39.getD t41.toNat []) 4))), IntKind.i64.wrap (t41 + 1)⟩) (.bad)) (.go ⟨t8, IntKind.i64.wrap (t41 + 1)⟩)) (.bad)) (.bad)) (.out (.x0 t8 t41))
noncomputable def o42aa_0 (ra : Int) (rb : Int) (rc : Int) (ps : List (List AV)) (t4 : Int) (t5 : Int) (t6 : List (List AV)) (t11 : Int) (ws : List (List AV)) (t31 : Int) (t32 : Int) (t39 : List (List AV)) (t40 : Int) (m18_0 : Int) (m18_1 : Int) (t8 : Int) (t41 : Int) : St :=
  { t := [(2, .rp [.int .i64, .int .i64, .int .i64, .sl 31] [.i .i64 ra, .i .i64 rb, .i .i64 rc, .rs 31 ps] 0), (4, .i .i64 t4), (5, .i .i64 t5), (6, .rs 91 t6), (8, .i .i64 t8), (9, .p 18 0 0), (11, .i .i64 t11), (30, .rs 3 ws), (31, .i .i64 t31), (32, .i .i64 t32), (39, .rs 31 t39), (40, .i .i64 t40), (41, .i .i64 t41)], m := [(0, .dead), (1, .dead), (2, .dead), (3, .dead), (4, .dead), (5, .dead), (6, .dead), (7, .dead), (8, .dead), (9, .dead), (10, .dead), (11, .dead), (12, .dead), (13, .dead), (14, .dead), (15, .dead), (16, .dead), (17, .dead), (18, .row 78 [[.i .i64 m18_0, .i .i64 m18_1]])], nx := 19, nt := 70 }
noncomputable def ou42aa (ra : Int) (rb : Int) (rc : Int) (ps : List (List AV)) (t4 : Int) (t5 : Int) (t6 : List (List AV)) (t11 : Int) (ws : List (List AV)) (t31 : Int) (t32 : Int) (t39 : List (List AV)) (t40 : Int) (m18_0 : Int) (m18_1 : Int) : T42aa → Ex × St
  | .x0 t8 t41 => (.ext 2, o42aa_0 ra rb rc ps t4 t5 t6 t11 ws t31 t32 t39 t40 m18_0 m18_1 t8 t41)
noncomputable def r42aa (ra : Int) (rb : Int) (rc : Int) (ps : List (List AV)) (t4 : Int) (t5 : Int) (t6 : List (List AV)) (t11 : Int) (ws : List (List AV)) (t31 : Int) (t32 : Int) (t39 : List (List AV)) (t40 : Int) (m18_0 : Int) (m18_1 : Int) (t8 : Int) (t41 : Int) : Option T42aa := run (fun x => stp42aa ra rb rc ps t4 t5 t6 t11 ws t31 t32 t39 t40 m18_0 m18_1 x.t8 x.t41) (⟨t8, t41⟩ : S42aa)
noncomputable def i42aa_0 (ra : Int) (rb : Int) (rc : Int) (ps : List (List AV)) (t4 : Int) (t5 : Int) (t6 : List (List AV)) (t11 : Int) (ws : List (List AV)) (t31 : Int) (t32 : Int) (t39 : List (List AV)) (t40 : Int) (m18_0 : Int) (m18_1 : Int) (t8 : Int) (t41 : Int) : Bool := match r42aa ra rb rc ps t4 t5 t6 t11 ws t31 t32 t39 t40 m18_0 m18_1 t8 t41 with
  | some (.x0 _ _) => true
  | _ => false
noncomputable def v42aa_0_t8 (ra : Int) (rb : Int) (rc : Int) (ps : List (List AV)) (t4 : Int) (t5 : Int) (t6 : List (List AV)) (t11 : Int) (ws : List (List AV)) (t31 : Int) (t32 : Int) (t39 : List (List AV)) (t40 : Int) (m18_0 : Int) (m18_1 : Int) (t8 : Int) (t41 : Int) : Int := match r42aa ra rb rc ps t4 t5 t6 t11 ws t31 t32 t39 t40 m18_0 m18_1 t8 t41 with
  | some (.x0 t8 _) => t8
  | _ => default
noncomputable def v42aa_0_t41 (ra : Int) (rb : Int) (rc : Int) (ps : List (List AV)) (t4 : Int) (t5 : Int) (t6 : List (List AV)) (t11 : Int) (ws : List (List AV)) (t31 : Int) (t32 : Int) (t39 : List (List AV)) (t40 : Int) (m18_0 : Int) (m18_1 : Int) (t8 : Int) (t41 : Int) : Int := match r42aa ra rb rc ps t4 t5 t6 t11 ws t31 t32 t39 t40 m18_0 m18_1 t8 t41 with
  | some (.x0 _ t41) => t41
  | _ => default
noncomputable def l42aa (st : St) : Option (List (Bool × Ex × St)) := match normW Try.prog [(2, none), (4, none), (5, none), (6, none), (8, none), (9, none), (11, none), (30, none), (31, none), (32, none), (39, none), (40, none), (41, none)] 19 st with
  | some ([.rp [.int .i64, .int .i64, .int .i64, .sl 31] [.i .i64 ra, .i .i64 rb, .i .i64 rc, .rs 31 ps] 0, .i .i64 t4, .i .i64 t5, .rs 91 t6, .i .i64 t8, .p 18 0 0, .i .i64 t11, .rs 3 ws, .i .i64 t31, .i .i64 t32, .rs 31 t39, .i .i64 t40, .i .i64 t41], [(0, .dead), (1, .dead), (2, .dead), (3, .dead), (4, .dead), (5, .dead), (6, .dead), (7, .dead), (8, .dead), (9, .dead), (10, .dead), (11, .dead), (12, .dead), (13, .dead), (14, .dead), (15, .dead), (16, .dead), (17, .dead), (18, .row 78 [[.i .i64 m18_0, .i .i64 m18_1]])], 19, 70) => some [(i42aa_0 ra rb rc ps t4 t5 t6 t11 ws t31 t32 t39 t40 m18_0 m18_1 t8 t41, .ext 2, o42aa_0 ra rb rc ps t4 t5 t6 t11 ws t31 t32 t39 t40 m18_0 m18_1 (v42aa_0_t8 ra rb rc ps t4 t5 t6 t11 ws t31 t32 t39 t40 m18_0 m18_1 t8 t41) (v42aa_0_t41 ra rb rc ps t4 t5 t6 t11 ws t31 t32 t39 t40 m18_0 m18_1 t8 t41))]
  | _ => none
structure S42a where
  t8 : Int
  t32 : Int
  m18_0 : Int
  m18_1 : Int
inductive T42a where
  | x0 (t8 : Int) (t32 : Int) (m18_0 : Int) (m18_1 : Int)
noncomputable def stp42a (ra : Int) (rb : Int) (rc : Int) (ps : List (List AV)) (t4 : Int) (t5 : Int) (t6 : List (List AV)) (ws : List (List AV)) (t31 : Int) (t8 : Int) (t32 : Int) (m18_0 : Int) (m18_1 : Int) : Lp S42a T42a :=
  cond (decide (t32 < t31)) (cond (inb t32 ws.length) (cond (decide (0 ≤ fI (ws.getD t32.toNat []) 0) && decide (fI (ws.getD t32.toNat []) 0 ≤ (↑ps.length : Int))) (cond (i42aa_0 ra rb rc ps t4 t5 t6 (fI (ws.getD t32.toNat []) 0) ws t31 t32 (List.drop 0 (List.take (fI (ws.getD t32.toNat []) 0).toNat ps)) (↑(List.drop 0 (List.take (fI (ws.getD t32.toNat []) 0).toNat ps)).length : Int) m18_0 m18_1 t8 0) (cond (inb (fI (ws.getD t32.toNat []) 0) ps.length) (cond (g71 m18_0 m18_1 (fS (ps.getD (fI (ws.getD t32.toNat []) 0).toNat []) 0) (fI (ps.getD (fI (ws.getD t32.toNat []) 0).toNat []) 1) (fI (ps.getD (fI (ws.getD t32.toNat []) 0).toNat []) 2) (fI (ps.getD (fI (ws.getD t32.toNat []) 0).toNat []) 3) (fI (ps.getD (fI (ws.getD t32.toNat []) 0).toNat []) 4)) (.go ⟨v42aa_0_t8 ra rb rc ps t4 t5 t6 (fI (ws.getD t32.toNat []) 0) ws t31 t32 (List.drop 0 (List.take (fI (ws.getD t32.toNat []) 0).toNat ps)) (↑(List.drop 0 (List.take (fI (ws.getD t32.toNat []) 0).toNat ps)).length : Int) m18_0 m18_1 t8 0, IntKind.i64.wrap (t32 + 1), w71_0 m18_0 m18_1 (fS (ps.getD (fI (ws.getD t32.toNat []) 0).toNat []) 0) (fI (ps.getD (fI (ws.getD t32.toNat []) 0).toNat []) 1) (fI (ps.getD (fI (ws.getD t32.toNat []) 0).toNat []) 2) (fI (ps.getD (fI (ws.getD t32.toNat []) 0).toNat []) 3) (fI (ps.getD (fI (ws.getD t32.toNat []) 0).toNat []) 4), w71_1 m18_0 m18_1 (fS (ps.getD (fI (ws.getD t32.toNat []) 0).toNat []) 0) (fI (ps.getD (fI (ws.getD t32.toNat []) 0).toNat []) 1) (fI (ps.getD (fI (ws.getD t32.toNat []) 0).toNat []) 2) (fI (ps.getD (fI (ws.getD t32.toNat []) 0).toNat []) 3) (fI (ps.getD (fI (ws.getD t32.toNat []) 0).toNat []) 4)⟩) (.bad)) (.bad)) (.bad)) (.bad)) (.bad)) (.out (.x0 t8 t32 m18_0 m18_1))
noncomputable def o42a_0 (ra : Int) (rb : Int) (rc : Int) (ps : List (List AV)) (t4 : Int) (t5 : Int) (t6 : List (List AV)) (ws : List (List AV)) (t31 : Int) (t8 : Int) (t32 : Int) (m18_0 : Int) (m18_1 : Int) : St :=
  { t := [(2, .rp [.int .i64, .int .i64, .int .i64, .sl 31] [.i .i64 ra, .i .i64 rb, .i .i64 rc, .rs 31 ps] 0), (4, .i .i64 t4), (5, .i .i64 t5), (6, .rs 91 t6), (8, .i .i64 t8), (9, .p 18 0 0), (30, .rs 3 ws), (31, .i .i64 t31), (32, .i .i64 t32)], m := [(0, .dead), (1, .dead), (2, .dead), (3, .dead), (4, .dead), (5, .dead), (6, .dead), (7, .dead), (8, .dead), (9, .dead), (10, .dead), (11, .dead), (12, .dead), (13, .dead), (14, .dead), (15, .dead), (16, .dead), (17, .dead), (18, .row 78 [[.i .i64 m18_0, .i .i64 m18_1]])], nx := 19, nt := 70 }
noncomputable def ou42a (ra : Int) (rb : Int) (rc : Int) (ps : List (List AV)) (t4 : Int) (t5 : Int) (t6 : List (List AV)) (ws : List (List AV)) (t31 : Int) : T42a → Ex × St
  | .x0 t8 t32 m18_0 m18_1 => (.ext 0, o42a_0 ra rb rc ps t4 t5 t6 ws t31 t8 t32 m18_0 m18_1)
noncomputable def r42a (ra : Int) (rb : Int) (rc : Int) (ps : List (List AV)) (t4 : Int) (t5 : Int) (t6 : List (List AV)) (ws : List (List AV)) (t31 : Int) (t8 : Int) (t32 : Int) (m18_0 : Int) (m18_1 : Int) : Option T42a := run (fun x => stp42a ra rb rc ps t4 t5 t6 ws t31 x.t8 x.t32 x.m18_0 x.m18_1) (⟨t8, t32, m18_0, m18_1⟩ : S42a)
noncomputable def i42a_0 (ra : Int) (rb : Int) (rc : Int) (ps : List (List AV)) (t4 : Int) (t5 : Int) (t6 : List (List AV)) (ws : List (List AV)) (t31 : Int) (t8 : Int) (t32 : Int) (m18_0 : Int) (m18_1 : Int) : Bool := match r42a ra rb rc ps t4 t5 t6 ws t31 t8 t32 m18_0 m18_1 with
  | some (.x0 _ _ _ _) => true
  | _ => false
noncomputable def v42a_0_t8 (ra : Int) (rb : Int) (rc : Int) (ps : List (List AV)) (t4 : Int) (t5 : Int) (t6 : List (List AV)) (ws : List (List AV)) (t31 : Int) (t8 : Int) (t32 : Int) (m18_0 : Int) (m18_1 : Int) : Int := match r42a ra rb rc ps t4 t5 t6 ws t31 t8 t32 m18_0 m18_1 with
  | some (.x0 t8 _ _ _) => t8
  | _ => default
noncomputable def v42a_0_t32 (ra : Int) (rb : Int) (rc : Int) (ps : List (List AV)) (t4 : Int) (t5 : Int) (t6 : List (List AV)) (ws : List (List AV)) (t31 : Int) (t8 : Int) (t32 : Int) (m18_0 : Int) (m18_1 : Int) : Int := match r42a ra rb rc ps t4 t5 t6 ws t31 t8 t32 m18_0 m18_1 with
  | some (.x0 _ t32 _ _) => t32
  | _ => default
noncomputable def v42a_0_m18_0 (ra : Int) (rb : Int) (rc : Int) (ps : List (List AV)) (t4 : Int) (t5 : Int) (t6 : List (List AV)) (ws : List (List AV)) (t31 : Int) (t8 : Int) (t32 : Int) (m18_0 : Int) (m18_1 : Int) : Int := match r42a ra rb rc ps t4 t5 t6 ws t31 t8 t32 m18_0 m18_1 with
  | some (.x0 _ _ m18_0 _) => m18_0
  | _ => default
noncomputable def v42a_0_m18_1 (ra : Int) (rb : Int) (rc : Int) (ps : List (List AV)) (t4 : Int) (t5 : Int) (t6 : List (List AV)) (ws : List (List AV)) (t31 : Int) (t8 : Int) (t32 : Int) (m18_0 : Int) (m18_1 : Int) : Int := match r42a ra rb rc ps t4 t5 t6 ws t31 t8 t32 m18_0 m18_1 with
  | some (.x0 _ _ _ m18_1) => m18_1
  | _ => default
noncomputable def l42a (st : St) : Option (List (Bool × Ex × St)) := match normW Try.prog [(2, none), (4, none), (5, none), (6, none), (8, none), (9, none), (30, none), (31, none), (32, none)] 19 st with
  | some ([.rp [.int .i64, .int .i64, .int .i64, .sl 31] [.i .i64 ra, .i .i64 rb, .i .i64 rc, .rs 31 ps] 0, .i .i64 t4, .i .i64 t5, .rs 91 t6, .i .i64 t8, .p 18 0 0, .rs 3 ws, .i .i64 t31, .i .i64 t32], [(0, .dead), (1, .dead), (2, .dead), (3, .dead), (4, .dead), (5, .dead), (6, .dead), (7, .dead), (8, .dead), (9, .dead), (10, .dead), (11, .dead), (12, .dead), (13, .dead), (14, .dead), (15, .dead), (16, .dead), (17, .dead), (18, .row 78 [[.i .i64 m18_0, .i .i64 m18_1]])], 19, 70) => some [(i42a_0 ra rb rc ps t4 t5 t6 ws t31 t8 t32 m18_0 m18_1, .ext 0, o42a_0 ra rb rc ps t4 t5 t6 ws t31 (v42a_0_t8 ra rb rc ps t4 t5 t6 ws t31 t8 t32 m18_0 m18_1) (v42a_0_t32 ra rb rc ps t4 t5 t6 ws t31 t8 t32 m18_0 m18_1) (v42a_0_m18_0 ra rb rc ps t4 t5 t6 ws t31 t8 t32 m18_0 m18_1) (v42a_0_m18_1 ra rb rc ps t4 t5 t6 ws t31 t8 t32 m18_0 m18_1))]
  | _ => none
noncomputable def L42 : LSpec := fun p st => match p with
  | [false, true, false, true, false, false, true, true, false, false, true, false, true, true, true, true, true] => l42aa st
  | [false, true, false, true, true, true, true, true] => l42a st
  | _ => none
theorem is42aa_0 (ra : Int) (rb : Int) (rc : Int) (ps : List (List AV)) (t4 : Int) (t5 : Int) (t6 : List (List AV)) (t11 : Int) (ws : List (List AV)) (t31 : Int) (t32 : Int) (t39 : List (List AV)) (t40 : Int) (m18_0 : Int) (m18_1 : Int) (t8 : Int) (t41 : Int) (h : i42aa_0 ra rb rc ps t4 t5 t6 t11 ws t31 t32 t39 t40 m18_0 m18_1 t8 t41 = true) : r42aa ra rb rc ps t4 t5 t6 t11 ws t31 t32 t39 t40 m18_0 m18_1 t8 t41 = some (.x0 (v42aa_0_t8 ra rb rc ps t4 t5 t6 t11 ws t31 t32 t39 t40 m18_0 m18_1 t8 t41) (v42aa_0_t41 ra rb rc ps t4 t5 t6 t11 ws t31 t32 t39 t40 m18_0 m18_1 t8 t41)) := by
  unfold i42aa_0 at h
  unfold v42aa_0_t8 v42aa_0_t41
  generalize r42aa ra rb rc ps t4 t5 t6 t11 ws t31 t32 t39 t40 m18_0 m18_1 t8 t41 = r at h ⊢
  rcases r with _ | y
  · cases h
  · cases y <;> first | rfl | cases h
theorem round42aa (ra : Int) (rb : Int) (rc : Int) (ps : List (List AV)) (t4 : Int) (t5 : Int) (t6 : List (List AV)) (t8 : Int) (t11 : Int) (ws : List (List AV)) (t31 : Int) (t32 : Int) (t39 : List (List AV)) (t40 : Int) (t41 : Int) (m18_0 : Int) (m18_1 : Int) : round Try.prog Sh (ro 42) L42 lp42aa [false, true, false, true, false, false, true, true, false, false, true, false, true, true, true, true, true] [(2, none), (4, none), (5, none), (6, none), (8, none), (9, none), (11, none), (30, none), (31, none), (32, none), (39, none), (40, none), (41, none)] 19 (s42aa ra rb rc ps t4 t5 t6 t8 t11 ws t31 t32 t39 t40 t41 m18_0 m18_1) =
    cond (decide (t41 < t40)) (cond (inb t41 t39.length) (cond (g71 m18_0 m18_1 (fS (t39.getD t41.toNat []) 0) (fI (t39.getD t41.toNat []) 1) (fI (t39.getD t41.toNat []) 2) (fI (t39.getD t41.toNat []) 3) (fI (t39.getD t41.toNat []) 4)) (cond (w71_2 m18_0 m18_1 (fS (t39.getD t41.toNat []) 0) (fI (t39.getD t41.toNat []) 1) (fI (t39.getD t41.toNat []) 2) (fI (t39.getD t41.toNat []) 3) (fI (t39.getD t41.toNat []) 4)) (cond (g51 t6 (w71_0 m18_0 m18_1 (fS (t39.getD t41.toNat []) 0) (fI (t39.getD t41.toNat []) 1) (fI (t39.getD t41.toNat []) 2) (fI (t39.getD t41.toNat []) 3) (fI (t39.getD t41.toNat []) 4)) (w71_1 m18_0 m18_1 (fS (t39.getD t41.toNat []) 0) (fI (t39.getD t41.toNat []) 1) (fI (t39.getD t41.toNat []) 2) (fI (t39.getD t41.toNat []) 3) (fI (t39.getD t41.toNat []) 4))) (some (.nrm, s42aa ra rb rc ps t4 t5 t6 (IntKind.i64.wrap (t8 + w51_0 t6 (w71_0 m18_0 m18_1 (fS (t39.getD t41.toNat []) 0) (fI (t39.getD t41.toNat []) 1) (fI (t39.getD t41.toNat []) 2) (fI (t39.getD t41.toNat []) 3) (fI (t39.getD t41.toNat []) 4)) (w71_1 m18_0 m18_1 (fS (t39.getD t41.toNat []) 0) (fI (t39.getD t41.toNat []) 1) (fI (t39.getD t41.toNat []) 2) (fI (t39.getD t41.toNat []) 3) (fI (t39.getD t41.toNat []) 4)))) t11 ws t31 t32 t39 t40 (IntKind.i64.wrap (t41 + 1)) m18_0 m18_1)) (none)) (some (.nrm, s42aa ra rb rc ps t4 t5 t6 t8 t11 ws t31 t32 t39 t40 (IntKind.i64.wrap (t41 + 1)) m18_0 m18_1))) (none)) (none)) (some (.ext 2, o42aa_0 ra rb rc ps t4 t5 t6 t11 ws t31 t32 t39 t40 m18_0 m18_1 t8 t41)) := by kernel_rfl
theorem rnd42aa (ra : Int) (rb : Int) (rc : Int) (ps : List (List AV)) (t4 : Int) (t5 : Int) (t6 : List (List AV)) (t11 : Int) (ws : List (List AV)) (t31 : Int) (t32 : Int) (t39 : List (List AV)) (t40 : Int) (m18_0 : Int) (m18_1 : Int) (x : S42aa) : round Try.prog Sh (ro 42) L42 lp42aa [false, true, false, true, false, false, true, true, false, false, true, false, true, true, true, true, true] [(2, none), (4, none), (5, none), (6, none), (8, none), (9, none), (11, none), (30, none), (31, none), (32, none), (39, none), (40, none), (41, none)] 19 ((fun x => s42aa ra rb rc ps t4 t5 t6 x.t8 t11 ws t31 t32 t39 t40 x.t41 m18_0 m18_1) x) = toR (fun x => s42aa ra rb rc ps t4 t5 t6 x.t8 t11 ws t31 t32 t39 t40 x.t41 m18_0 m18_1) (ou42aa ra rb rc ps t4 t5 t6 t11 ws t31 t32 t39 t40 m18_0 m18_1) (stp42aa ra rb rc ps t4 t5 t6 t11 ws t31 t32 t39 t40 m18_0 m18_1 x.t8 x.t41) := by
  refine (round42aa _ _ _ _ _ _ _ _ _ _ _ _ _ _ _ _ _ ).trans ?_
  unfold stp42aa
  simp only [toR_cond]
  rfl
theorem lok42aa {st : St} {outs : List (Bool × Ex × St)} {e : Ex} {s : St} (hl : l42aa st = some outs) (hch : Chosen outs e s) :
    ∃ keep nb, 0 ≤ nb ∧ LB Try.prog Sh (ro 42) L42 lp42aa [false, true, false, true, false, false, true, true, false, false, true, false, true, true, true, true, true] keep nb st e s := by
  unfold l42aa at hl
  split at hl
  · rename_i ra rb rc ps t4 t5 t6 t8 t11 ws t31 t32 t39 t40 t41 m18_0 m18_1 hno
    cases hl
    have hno := normW_norm hno
    refine ⟨_, _, ?_, .enter hno ?_⟩
    · decide
    have main := fun y h => LB_run (x := (⟨t8, t41⟩ : S42aa)) (y := y) (nb := 19) (fun y => by cases y <;> simp [ou42aa]) (rnd42aa ra rb rc ps t4 t5 t6 t11 ws t31 t32 t39 t40 m18_0 m18_1) h
    obtain ⟨x, hx, hg, rfl, rfl⟩ := chosen_any hch
    simp only [List.mem_cons, List.not_mem_nil, or_false] at hx
    subst hx
    exact main _ (is42aa_0 ra rb rc ps t4 t5 t6 t11 ws t31 t32 t39 t40 m18_0 m18_1 t8 t41 hg)
  · cases hl
theorem is42a_0 (ra : Int) (rb : Int) (rc : Int) (ps : List (List AV)) (t4 : Int) (t5 : Int) (t6 : List (List AV)) (ws : List (List AV)) (t31 : Int) (t8 : Int) (t32 : Int) (m18_0 : Int) (m18_1 : Int) (h : i42a_0 ra rb rc ps t4 t5 t6 ws t31 t8 t32 m18_0 m18_1 = true) : r42a ra rb rc ps t4 t5 t6 ws t31 t8 t32 m18_0 m18_1 = some (.x0 (v42a_0_t8 ra rb rc ps t4 t5 t6 ws t31 t8 t32 m18_0 m18_1) (v42a_0_t32 ra rb rc ps t4 t5 t6 ws t31 t8 t32 m18_0 m18_1) (v42a_0_m18_0 ra rb rc ps t4 t5 t6 ws t31 t8 t32 m18_0 m18_1) (v42a_0_m18_1 ra rb rc ps t4 t5 t6 ws t31 t8 t32 m18_0 m18_1)) := by
  unfold i42a_0 at h
  unfold v42a_0_t8 v42a_0_t32 v42a_0_m18_0 v42a_0_m18_1
  generalize r42a ra rb rc ps t4 t5 t6 ws t31 t8 t32 m18_0 m18_1 = r at h ⊢
  rcases r with _ | y
  · cases h
  · cases y <;> first | rfl | cases h
theorem round42a (ra : Int) (rb : Int) (rc : Int) (ps : List (List AV)) (t4 : Int) (t5 : Int) (t6 : List (List AV)) (t8 : Int) (ws : List (List AV)) (t31 : Int) (t32 : Int) (m18_0 : Int) (m18_1 : Int) : round Try.prog Sh (ro 42) L42 lp42a [false, true, false, true, true, true, true, true] [(2, none), (4, none), (5, none), (6, none), (8, none), (9, none), (30, none), (31, none), (32, none)] 19 (s42a ra rb rc ps t4 t5 t6 t8 ws t31 t32 m18_0 m18_1) =
    cond (decide (t32 < t31)) (cond (inb t32 ws.length) (cond (decide (0 ≤ fI (ws.getD t32.toNat []) 0) && decide (fI (ws.getD t32.toNat []) 0 ≤ (↑ps.length : Int))) (cond (i42aa_0 ra rb rc ps t4 t5 t6 (fI (ws.getD t32.toNat []) 0) ws t31 t32 (List.drop 0 (List.take (fI (ws.getD t32.toNat []) 0).toNat ps)) (↑(List.drop 0 (List.take (fI (ws.getD t32.toNat []) 0).toNat ps)).length : Int) m18_0 m18_1 t8 0) (cond (inb (fI (ws.getD t32.toNat []) 0) ps.length) (cond (g71 m18_0 m18_1 (fS (ps.getD (fI (ws.getD t32.toNat []) 0).toNat []) 0) (fI (ps.getD (fI (ws.getD t32.toNat []) 0).toNat []) 1) (fI (ps.getD (fI (ws.getD t32.toNat []) 0).toNat []) 2) (fI (ps.getD (fI (ws.getD t32.toNat []) 0).toNat []) 3) (fI (ps.getD (fI (ws.getD t32.toNat []) 0).toNat []) 4)) (some (.nrm, s42a ra rb rc ps t4 t5 t6 (v42aa_0_t8 ra rb rc ps t4 t5 t6 (fI (ws.getD t32.toNat []) 0) ws t31 t32 (List.drop 0 (List.take (fI (ws.getD t32.toNat []) 0).toNat ps)) (↑(List.drop 0 (List.take (fI (ws.getD t32.toNat []) 0).toNat ps)).length : Int) m18_0 m18_1 t8 0) ws t31 (IntKind.i64.wrap (t32 + 1)) (w71_0 m18_0 m18_1 (fS (ps.getD (fI (ws.getD t32.toNat []) 0).toNat []) 0) (fI (ps.getD (fI (ws.getD t32.toNat []) 0).toNat []) 1) (fI (ps.getD (fI (ws.getD t32.toNat []) 0).toNat []) 2) (fI (ps.getD (fI (ws.getD t32.toNat []) 0).toNat []) 3) (fI (ps.getD (fI (ws.getD t32.toNat []) 0).toNat []) 4)) (w71_1 m18_0 m18_1 (fS (ps.getD (fI (ws.getD t32.toNat []) 0).toNat []) 0) (fI (ps.getD (fI (ws.getD t32.toNat []) 0).toNat []) 1) (fI (ps.getD (fI (ws.getD t32.toNat []) 0).toNat []) 2) (fI (ps.getD (fI (ws.getD t32.toNat []) 0).toNat []) 3) (fI (ps.getD (fI (ws.getD t32.toNat []) 0).toNat []) 4)))) (none)) (none)) (none)) (none)) (none)) (some (.ext 0, o42a_0 ra rb rc ps t4 t5 t6 ws t31 t8 t32 m18_0 m18_1)) := by kernel_rfl
theorem rnd42a (ra : Int) (rb : Int) (rc : Int) (ps : List (List AV)) (t4 : Int) (t5 : Int) (t6 : List (List AV)) (ws : List (List AV)) (t31 : Int) (x : S42a) : round Try.prog Sh (ro 42) L42 lp42a [false, true, false, true, true, true, true, true] [(2, none), (4, none), (5, none), (6, none), (8, none), (9, none), (30, none), (31, none), (32, none)] 19 ((fun x => s42a ra rb rc ps t4 t5 t6 x.t8 ws t31 x.t32 x.m18_0 x.m18_1) x) = toR (fun x => s42a ra rb rc ps t4 t5 t6 x.t8 ws t31 x.t32 x.m18_0 x.m18_1) (ou42a ra rb rc ps t4 t5 t6 ws t31) (stp42a ra rb rc ps t4 t5 t6 ws t31 x.t8 x.t32 x.m18_0 x.m18_1) := by
  refine (round42a _ _ _ _ _ _ _ _ _ _ _ _ _ ).trans ?_
  unfold stp42a
  simp only [toR_cond]
  rfl
theorem lok42a {st : St} {outs : List (Bool × Ex × St)} {e : Ex} {s : St} (hl : l42a st = some outs) (hch : Chosen outs e s) :
    ∃ keep nb, 0 ≤ nb ∧ LB Try.prog Sh (ro 42) L42 lp42a [false, true, false, true, true, true, true, true] keep nb st e s := by
  unfold l42a at hl
  split at hl
  · rename_i ra rb rc ps t4 t5 t6 t8 ws t31 t32 m18_0 m18_1 hno
    cases hl
    have hno := normW_norm hno
    refine ⟨_, _, ?_, .enter hno ?_⟩
    · decide
    have main := fun y h => LB_run (x := (⟨t8, t32, m18_0, m18_1⟩ : S42a)) (y := y) (nb := 19) (fun y => by cases y <;> simp [ou42a]) (rnd42a ra rb rc ps t4 t5 t6 ws t31) h
    obtain ⟨x, hx, hg, rfl, rfl⟩ := chosen_any hch
    simp only [List.mem_cons, List.not_mem_nil, or_false] at hx
    subst hx
    exact main _ (is42a_0 ra rb rc ps t4 t5 t6 ws t31 t8 t32 m18_0 m18_1 hg)
  · cases hl
theorem L42_ok (q : Pl) (c : Code) (hq : locate c42 q.reverse = some (.loop c)) (st : St) (outs : List (Bool × Ex × St)) (e : Ex) (s : St) (hl : L42 q st = some outs) (hch : Chosen outs e s) :
    ∃ keep nb, 0 ≤ nb ∧ LB Try.prog Sh (ro 42) L42 c q keep nb st e s := by
  unfold L42 at hl
  split at hl
  · have : locate c42 ([false, true, false, true, false, false, true, true, false, false, true, false, true, true, true, true, true] : Pl).reverse = some (.loop lp42aa) := by kernel_rfl
    rw [this] at hq
    cases hq
    exact lok42aa hl hch
  · have : locate c42 ([false, true, false, true, true, true, true, true] : Pl).reverse = some (.loop lp42a) := by kernel_rfl
    rw [this] at hq
    cases hq
    exact lok42a hl hch
  · cases hl
theorem lok42 : LOK Try.prog Sh (ro 42) L42 0 false c42 [] :=
  lok_lo L42_ok c42 [] false (locate_nil _) (by kernel_rfl)
noncomputable def t42 (ra rb rc : Int) (ps : List (List AV)) (ws : List (List AV)) : Tr ((Int) × (Int)) :=
  .cn (g50 ra rb rc ps) (.cn (w50_1 ra rb rc ps != 0) (.lf (0, w50_1 ra rb rc ps)) (.cn (g64 ra rb rc ps ws) (.cn (!w64_0 ra rb rc ps ws) (.lf (0, 8)) (.cn (i42a_0 ra rb rc ps 0 0 (w50_0 ra rb rc ps) ws (↑ws.length : Int) 0 0 (w52_0 ra rb rc ps) (w52_1 ra rb rc ps)) (.lf (v42a_0_t8 ra rb rc ps 0 0 (w50_0 ra rb rc ps) ws (↑ws.length : Int) 0 0 (w52_0 ra rb rc ps) (w52_1 ra rb rc ps), 0)) (.nn))) (.nn))) (.nn)
noncomputable def g42 (ra rb rc : Int) (ps : List (List AV)) (ws : List (List AV)) : Bool := (t42 ra rb rc ps ws).g
noncomputable def w42_0 (ra rb rc : Int) (ps : List (List AV)) (ws : List (List AV)) : Int := (t42 ra rb rc ps ws).val.1
noncomputable def w42_1 (ra rb rc : Int) (ps : List (List AV)) (ws : List (List AV)) : Int := (t42 ra rb rc ps ws).val.2
theorem eq42 (ra rb rc : Int) (ps : List (List AV)) (ws : List (List AV)) : evF Try.prog Sh (ro 42) L42 Try.f42 [.agg [.i .i64 ra, .i .i64 rb, .i .i64 rc, .rs 31 ps], .rs 3 ws] = (t42 ra rb rc ps ws).opt (fun (x : (Int) × (Int)) => (.tup [.i .i64 x.1, .i .i64 x.2] : AV)) := by kernel_rfl
theorem con42 (ra rb rc : Int) (ps : List (List AV)) (ws : List (List AV)) (h : g42 ra rb rc ps ws = true) : Con Try.prog 42 [.agg [.i .i64 ra, .i .i64 rb, .i .i64 rc, .rs 31 ps], .rs 3 ws] [] (.tup [.i .i64 (w42_0 ra rb rc ps ws), .i .i64 (w42_1 ra rb rc ps ws)]) [] :=
  con_of Sh_ok mixed Try.func42 (c := c42) rfl (names 42 _ Try.func42) lok42 ((eq42 ra rb rc ps ws).trans (Tr.sound _ _ h))
noncomputable def e42 (args : List AV) (rows : List Blk) : Option (Bool × AV × List Blk) := match args, rows with
  | [.agg [.i .i64 ra, .i .i64 rb, .i .i64 rc, .rs 31 ps], .rs 3 ws], [] => some (g42 ra rb rc ps ws, .tup [.i .i64 (w42_0 ra rb rc ps ws), .i .i64 (w42_1 ra rb rc ps ws)], [])
  | _, _ => none
theorem e42_ok (args : List AV) (rows : List Blk) (pre : Bool) (v : AV) (rows' : List Blk) (h : e42 args rows = some (pre, v, rows')) (hp : pre = true) : Con Try.prog 42 args rows v rows' := by
  unfold e42 at h
  split at h
  · cases h; exact con42 _ _ _ _ _ hp
  · cases h
-- SPEC 42
end Go.Proofs.Ytgifjphinkbcaaa

set_option maxRecDepth 100000
set_option linter.unusedVariables false
namespace Go.Proofs.Ytgifjphinkbcaaa
open Go Go.Ev

/-! ### ref Rank -/
noncomputable def c43 : Code := match Try.f43.body with | some c => c | _ => .skip
noncomputable def lp43a : Code := loopAt c43 [true, true, true, true, true, false, true, false]
noncomputable def s43a (ws : List (List AV)) (ra : Int) (rb : Int) (rc : Int) (ps : List (List AV)) (t4 : Int) (t5 : Int) (t6 : List (List AV)) (t8 : Int) (t9 : Int) (t10 : Int) (t11 : Int) : St :=
  { t := [(1, .rs 3 ws), (2, .rp [.int .i64, .int .i64, .int .i64, .sl 31] [.i .i64 ra, .i .i64 rb, .i .i64 rc, .rs 31 ps] 0), (4, .i .i64 t4), (5, .i .i64 t5), (6, .rs 91 t6), (8, .i .i64 t8), (9, .i .i64 t9), (10, .i .i64 t10), (11, .i .i64 t11)], m := [], nx := 0, nt := 91 }
noncomputable def lp43aa : Code := loopAt c43 [true, true, true, true, true, false, true, false, false, true, false, false, false, true, false]
noncomputable def s43aa (ws : List (List AV)) (ra : Int) (rb : Int) (rc : Int) (ps : List (List AV)) (t4 : Int) (t5 : Int) (t6 : List (List AV)) (t8 : Int) (t9 : Int) (t10 : Int) (t11 : Int) (t12 : Int) : St :=
  { t := [(1, .rs 3 ws), (2, .rp [.int .i64, .int .i64, .int .i64, .sl 31] [.i .i64 ra, .i .i64 rb, .i .i64 rc, .rs 31 ps] 0), (4, .i .i64 t4), (5, .i .i64 t5), (6, .rs 91 t6), (8, .i .i64 t8), (9, .i .i64 t9), (10, .i .i64 t10), (11, .i .i64 t11), (12, .i .i64 t12)], m := [], nx := 0, nt := 91 }
structure S43aa where
  t8 : Int
  t12 : Int
inductive T43aa where
  | x0 (t8 : Int) (t12 : Int)
noncomputable def stp43aa (ws : List (List AV)) (ra : Int) (rb : Int) (rc : Int) (ps : List (List AV)) (t4 : Int) (t5 : Int) (t6 : List (List AV)) (t9 : Int) (t10 : Int) (t11 : Int) (t8 : Int) (t12 : Int) : Lp S43aa T43aa :=
  cond (inb t11 ws.length) (cond (decide (t12 < fI (ws.getD t11.toNat []) 0)) (cond (inb t12 ps.length) (cond (fI (ps.getD t12.toNat []) 2 == t10) (cond (decide (fI (ps.getD t12.toNat []) 1 ≤ t9)) (cond (inb (IntKind.i64.wrap (t9 - fI (ps.getD t12.toNat []) 1)) t6.length) (cond (inb (fI (ps.getD t12.toNat []) 3) 10) (cond (ctsAt (cts Try.prog 91) (0 + (fI (ps.getD t12.toNat []) 3).toNat * 1) (cts Try.prog 3)) (.go ⟨IntKind.i64.wrap (t8 + toI ((t6.getD (IntKind.i64.wrap (t9 - fI (ps.getD t12.toNat []) 1)).toNat []).getD (0 + (fI (ps.getD t12.toNat []) 3).toNat * 1) AV.u)), IntKind.i64.wrap (t12 + 1)⟩) (.bad)) (.bad)) (.bad)) (.go ⟨t8, IntKind.i64.wrap (t12 + 1)⟩)) (.go ⟨t8, IntKind.i64.wrap (t12 + 1)⟩)) (.bad)) (.out (.x0 t8 t12))) (.bad)
noncomputable def o43aa_0 (ws : List (List AV)) (ra : Int) (rb : Int) (rc : Int) (ps : List (List AV)) (t4 : Int) (t5 : Int) (t6 : List (List AV)) (t9 : Int) (t10 : Int) (t11 : Int) (t8 : Int) (t12 : Int) : St :=
  { t := [(1, .rs 3 ws), (2, .rp [.int .i64, .int .i64, .int .i64, .sl 31] [.i .i64 ra, .i .i64 rb, .i .i64 rc, .rs 31 ps] 0), (4, .i .i64 t4), (5, .i .i64 t5), (6, .rs 91 t6), (8, .i .i64 t8), (9, .i .i64 t9), (10, .i .i64 t10), (11, .i .i64 t11), (12, .i .i64 t12)], m := [], nx := 0, nt := 91 }
noncomputable def ou43aa (ws : List (List AV)) (ra : Int) (rb : Int) (rc : Int) (ps : List (List AV)) (t4 : Int) (t5 : Int) (t6 : List (List AV)) (t9 : Int) (t10 : Int) (t11 : Int) : T43aa → Ex × St
  | .x0 t8 t12 => (.ext 2, o43aa_0 ws ra rb rc ps t4 t5 t6 t9 t10 t11 t8 t12)
noncomputable def r43aa (ws : List (List AV)) (ra : Int) (rb : Int) (rc : Int) (ps : List (List AV)) (t4 : Int) (t5 : Int) (t6 : List (List AV)) (t9 : Int) (t10 : Int) (t11 : Int) (t8 : Int) (t12 : Int) : Option T43aa := run (fun x => stp43aa ws ra rb rc ps t4 t5 t6 t9 t10 t11 x.t8 x.t12) (⟨t8, t12⟩ : S43aa)
noncomputable def i43aa_0 (ws : List (List AV)) (ra : Int) (rb : Int) (rc : Int) (ps : List (List AV)) (t4 : Int) (t5 : Int) (t6 : List (List AV)) (t9 : Int) (t10 : Int) (t11 : Int) (t8 : Int) (t12 : Int) : Bool := match r43aa ws ra rb rc ps t4 t5 t6 t9 t10 t11 t8 t12 with
  | some (.x0 _ _) => true
  | _ => false
noncomputable def v43aa_0_t8 (ws : List (List AV)) (ra : Int) (rb : Int) (rc : Int) (ps : List (List AV)) (t4 : Int) (t5 : Int) (t6 : List (List AV)) (t9 : Int) (t10 : Int) (t11 : Int) (t8 : Int) (t12 : Int) : Int := match r43aa ws ra rb rc ps t4 t5 t6 t9 t10 t11 t8 t12 with
  | some (.x0 t8 _) => t8
  | _ => default
noncomputable def v43aa_0_t12 (ws : List (List AV)) (ra : Int) (rb : Int) (rc : Int) (ps : List (List AV)) (t4 : Int) (t5 : Int) (t6 : List (List AV)) (t9 : Int) (t10 : Int) (t11 : Int) (t8 : Int) (t12 : Int) : Int := match r43aa ws ra rb rc ps t4 t5 t6 t9 t10 t11 t8 t12 with
  | some (.x0 _ t12) => t12
  | _ => default
noncomputable def l43aa (st : St) : Option (List (Bool × Ex × St)) := match normW Try.prog [(1, none), (2, none), (4, none), (5, none), (6, none), (8, none), (9, none), (10, none), (11, none), (12, none)] 0 st with
  | some ([.rs 3 ws, .rp [.int .i64, .int .i64, .int .i64, .sl 31] [.i .i64 ra, .i .i64 rb, .i .i64 rc, .rs 31 ps] 0, .i .i64 t4, .i .i64 t5, .rs 91 t6, .i .i64 t8, .i .i64 t9, .i .i64 t10, .i .i64 t11, .i .i64 t12], [], 0, 91) => some [(i43aa_0 ws ra rb rc ps t4 t5 t6 t9 t10 t11 t8 t12, .ext 2, o43aa_0 ws ra rb rc ps t4 t5 t6 t9 t10 t11 (v43aa_0_t8 ws ra rb rc ps t4 t5 t6 t9 t10 t11 t8 t12) (v43aa_0_t12 ws ra rb rc ps t4 t5 t6 t9 t10 t11 t8 t12))]
  | _ => none
structure S43a where
  t8 : Int
  t9 : Int
  t10 : Int
  t11 : Int
inductive T43a where
  | x0 (t8 : Int) (t9 : Int) (t10 : Int) (t11 : Int)
noncomputable def stp43a (ws : List (List AV)) (ra : Int) (rb : Int) (rc : Int) (ps : List (List AV)) (t4 : Int) (t5 : Int) (t6 : List (List AV)) (t8 : Int) (t9 : Int) (t10 : Int) (t11 : Int) : Lp S43a T43a :=
  cond (decide (t11 < (↑ws.length : Int))) (cond (i43aa_0 ws ra rb rc ps t4 t5 t6 t9 t10 t11 t8 0) (cond (inb t11 ws.length) (cond (inb (fI (ws.getD t11.toNat []) 0) ps.length) (.go ⟨v43aa_0_t8 ws ra rb rc ps t4 t5 t6 t9 t10 t11 t8 0, IntKind.i64.wrap (t9 - fI (ps.getD (fI (ws.getD t11.toNat []) 0).toNat []) 1), fI (ps.getD (fI (ws.getD t11.toNat []) 0).toNat []) 3, IntKind.i64.wrap (t11 + 1)⟩) (.bad)) (.bad)) (.bad)) (.out (.x0 t8 t9 t10 t11))
noncomputable def o43a_0 (ws : List (List AV)) (ra : Int) (rb : Int) (rc : Int) (ps : List (List AV)) (t4 : Int) (t5 : Int) (t6 : List (List AV)) (t8 : Int) (t9 : Int) (t10 : Int) (t11 : Int) : St :=
  { t := [(1, .rs 3 ws), (2, .rp [.int .i64, .int .i64, .int .i64, .sl 31] [.i .i64 ra, .i .i64 rb, .i .i64 rc, .rs 31 ps] 0), (4, .i .i64 t4), (5, .i .i64 t5), (6, .rs 91 t6), (8, .i .i64 t8), (9, .i .i64 t9), (10, .i .i64 t10), (11, .i .i64 t11)], m := [], nx := 0, nt := 91 }
noncomputable def ou43a (ws : List (List AV)) (ra : Int) (rb : Int) (rc : Int) (ps : List (List AV)) (t4 : Int) (t5 : Int) (t6 : List (List AV)) : T43a → Ex × St
  | .x0 t8 t9 t10 t11 => (.ext 0, o43a_0 ws ra rb rc ps t4 t5 t6 t8 t9 t10 t11)
noncomputable def r43a (ws : List (List AV)) (ra : Int) (rb : Int) (rc : Int) (ps : List (List AV)) (t4 : Int) (t5 : Int) (t6 : List (List AV)) (t8 : Int) (t9 : Int) (t10 : Int) (t11 : Int) : Option T43a := run (fun x => stp43a ws ra rb rc ps t4 t5 t6 x.t8 x.t9 x.t10 x.t11) (⟨t8, t9, t10, t11⟩ : S43a)
noncomputable def i43a_0 (ws : List (List AV)) (ra : Int) (rb : Int) (rc : Int) (ps : List (List AV)) (t4 : Int) (t5 : Int) (t6 : List (List AV)) (t8 : Int) (t9 : Int) (t10 : Int) (t11 : Int) : Bool := match r43a ws ra rb rc ps t4 t5 t6 t8 t9 t10 t11 with
  | some (.x0 _ _ _ _) => true
  | _ => false
noncomputable def v43a_0_t8 (ws : List (List AV)) (ra : Int) (rb : Int) (rc : Int) (ps : List (List AV)) (t4 : Int) (t5 : Int) (t6 : List (List AV)) (t8 : Int) (t9 : Int) (t10 : Int) (t11 : Int) : Int := match r43a ws ra rb rc ps t4 t5 t6 t8 t9 t10 t11 with
  | some (.x0 t8 _ _ _) => t8
  | _ => default
noncomputable def v43a_0_t9 (ws : List (List AV)) (ra : Int) (rb : Int) (rc : Int) (ps : List (List AV)) (t4 : Int) (t5 : Int) (t6 : List (List AV)) (t8 : Int) (t9 : Int) (t10 : Int) (t11 : Int) : Int := match r43a ws ra rb rc ps t4 t5 t6 t8 t9 t10 t11 with
  | some (.x0 _ t9 _ _) => t9
  | _ => default
noncomputable def v43a_0_t10 (ws : List (List AV)) (ra : Int) (rb : Int) (rc : Int) (ps : List (List AV)) (t4 : Int) (t5 : Int) (t6 : List (List AV)) (t8 : Int) (t9 : Int) (t10 : Int) (t11 : Int) : Int := match r43a ws ra rb rc ps t4 t5 t6 t8 t9 t10 t11 with
  | some (.x0 _ _ t10 _) => t10
  | _ => default
noncomputable def v43a_0_t11 (ws : List (List AV)) (ra : Int) (rb : Int) (rc : Int) (ps : List (List AV)) (t4 : Int) (t5 : Int) (t6 : List (List AV)) (t8 : Int) (t9 : Int) (t10 : Int) (t11 : Int) : Int := match r43a ws ra rb rc ps t4 t5 t6 t8 t9 t10 t11 with
  | some (.x0 _ _ _ t11) => t11
  | _ => default
noncomputable def l43a (st : St) : Option (List (Bool × Ex × St)) := match normW Try.prog [(1, none), (2, none), (4, none), (5, none), (6, none), (8, none), (9, none), (10, none), (11, none)] 0 st with
  | some ([.rs 3 ws, .rp [.int .i64, .int .i64, .int .i64, .sl 31] [.i .i64 ra, .i .i64 rb, .i .i64 rc, .rs 31 ps] 0, .i .i64 t4, .i .i64 t5, .rs 91 t6, .i .i64 t8, .i .i64 t9, .i .i64 t10, .i .i64 t11], [], 0, 91) => some [(i43a_0 ws ra rb rc ps t4 t5 t6 t8 t9 t10 t11, .ext 0, o43a_0 ws ra rb rc ps t4 t5 t6 (v43a_0_t8 ws ra rb rc ps t4 t5 t6 t8 t9 t10 t11) (v43a_0_t9 ws ra rb rc ps t4 t5 t6 t8 t9 t10 t11) (v43a_0_t10 ws ra rb rc ps t4 t5 t6 t8 t9 t10 t11) (v43a_0_t11 ws ra rb rc ps t4 t5 t6 t8 t9 t10 t11))]
  | _ => none
noncomputable def L43 : LSpec := fun p st => match p with
  | [false, true, false, false, false, true, false, false, true, false, true, true, true, true, true] => l43aa st
  | [false, true, false, true, true, true, true, true] => l43a st
  | _ => none
theorem is43aa_0 (ws : List (List AV)) (ra : Int) (rb : Int) (rc : Int) (ps : List (List AV)) (t4 : Int) (t5 : Int) (t6 : List (List AV)) (t9 : Int) (t10 : Int) (t11 : Int) (t8 : Int) (t12 : Int) (h : i43aa_0 ws ra rb rc ps t4 t5 t6 t9 t10 t11 t8 t12 = true) : r43aa ws ra rb rc ps t4 t5 t6 t9 t10 t11 t8 t12 = some (.x0 (v43aa_0_t8 ws ra rb rc ps t4 t5 t6 t9 t10 t11 t8 t12) (v43aa_0_t12 ws ra rb rc ps t4 t5 t6 t9 t10 t11 t8 t12)) := by
  unfold i43aa_0 at h
  unfold v43aa_0_t8 v43aa_0_t12
  generalize r43aa ws ra rb rc ps t4 t5 t6 t9 t10 t11 t8 t12 = r at h ⊢
  rcases r with _ | y
  · cases h
  · cases y <;> first | rfl | cases h
theorem round43aa (ws : List (List AV)) (ra : Int) (rb : Int) (rc : Int) (ps : List (List AV)) (t4 : Int) (t5 : Int) (t6 : List (List AV)) (t8 : Int) (t9 : Int) (t10 : Int) (t11 : Int) (t12 : Int) : round Try.prog Sh (ro 43) L43 lp43aa [false, true, false, false, false, true, false, false, true, false, true, true, true, true, true] [(1, none), (2, none), (4, none), (5, none), (6, none), (8, none), (9, none), (10, none), (11, none), (12, none)] 0 (s43aa ws ra rb rc ps t4 t5 t6 t8 t9 t10 t11 t12) =
    cond (inb t11 ws.length) (cond (decide (t12 < fI (ws.getD t11.toNat []) 0)) (cond (inb t12 ps.length) (cond (fI (ps.getD t12.toNat []) 2 == t10) (cond (decide (fI (ps.getD t12.toNat []) 1 ≤ t9)) (cond (inb (IntKind.i64.wrap (t9 - fI (ps.getD t12.toNat []) 1)) t6.length) (cond (inb (fI (ps.getD t12.toNat []) 3) 10) (cond (ctsAt (cts Try.prog 91) (0 + (fI (ps.getD t12.toNat []) 3).toNat * 1) (cts Try.prog 3)) (some (.nrm, s43aa ws ra rb rc ps t4 t5 t6 (IntKind.i64.wrap (t8 + toI ((t6.getD (IntKind.i64.wrap (t9 - fI (ps.getD t12.toNat []) 1)).toNat []).getD (0 + (fI (ps.getD t12.toNat []) 3).toNat * 1) AV.u))) t9 t10 t11 (IntKind.i64.wrap (t12 + 1)))) (none)) (none)) (none)) (some (.nrm, s43aa ws ra rb rc ps t4 t5 t6 t8 t9 t10 t11 (IntKind.i64.wrap (t12 + 1))))) (some (.nrm, s43aa ws ra rb rc ps t4 t5 t6 t8 t9 t10 t11 (IntKind.i64.wrap (t12 + 1))))) (none)) (some (.ext 2, o43aa_0 ws ra rb rc ps t4 t5 t6 t9 t10 t11 t8 t12))) (none) := by kernel_rfl
theorem rnd43aa (ws : List (List AV)) (ra : Int) (rb : Int) (rc : Int) (ps : List (List AV)) (t4 : Int) (t5 : Int) (t6 : List (List AV)) (t9 : Int) (t10 : Int) (t11 : Int) (x : S43aa) : round Try.prog Sh (ro 43) L43 lp43aa [false, true, false, false, false, true, false, false, true, false, true, true, true, true, true] [(1, none), (2, none), (4, none), (5, none), (6, none), (8, none), (9, none), (10, none), (11, none), (12, none)] 0 ((fun x => s43aa ws ra rb rc ps t4 t5 t6 x.t8 t9 t10 t11 x.t12) x) = toR (fun x => s43aa ws ra rb rc ps t4 t5 t6 x.t8 t9 t10 t11 x.t12) (ou43aa ws ra rb rc ps t4 t5 t6 t9 t10 t11) (stp43aa ws ra rb rc ps t4 t5 t6 t9 t10 t11 x.t8 x.t12) := by
  refine (round43aa _ _ _ _ _ _ _ _ _ _ _ _ _ ).trans ?_
  unfold stp43aa
  simp only [toR_cond]
  rfl
theorem lok43aa {st : St} {outs : List (Bool × Ex × St)} {e : Ex} {s : St} (hl : l43aa st = some outs) (hch : Chosen outs e s) :
    ∃ keep nb, 0 ≤ nb ∧ LB Try.prog Sh (ro 43) L43 lp43aa [false, true, false, false, false, true, false, false, true, false, true, true, true, true, true] keep nb st e s := by
  unfold l43aa at hl
  split at hl
  · rename_i ws ra rb rc ps t4 t5 t6 t8 t9 t10 t11 t12 hno
    cases hl
    have hno := normW_norm hno
    refine ⟨_, _, ?_, .enter hno ?_⟩
    · decide
    have main := fun y h => LB_run (x := (⟨t8, t12⟩ : S43aa)) (y := y) (nb := 0) (fun y => by cases y <;> simp [ou43aa]) (rnd43aa ws ra rb rc ps t4 t5 t6 t9 t10 t11) h
    obtain ⟨x, hx, hg, rfl, rfl⟩ := chosen_any hch
    simp only [List.mem_cons, List.not_mem_nil, or_false] at hx
    subst hx
    exact main _ (is43aa_0 ws ra rb rc ps t4 t5 t6 t9 t10 t11 t8 t12 hg)
  · cases hl
theorem is43a_0 (ws : List (List AV)) (ra : Int) (rb : Int) (rc : Int) (ps : List (List AV)) (t4 : Int) (t5 : Int) (t6 : List (List AV)) (t8 : Int) (t9 : Int) (t10 : Int) (t11 : Int) (h : i43a_0 ws ra rb rc ps t4 t5 t6 t8 t9 t10 t11 = true) : r43a ws ra rb rc ps t4 t5 t6 t8 t9 t10 t11 = some (.x0 (v43a_0_t8 ws ra rb rc ps t4 t5 t6 t8 t9 t10 t11) (v43a_0_t9 ws ra rb rc ps t4 t5 t6 t8 t9 t10 t11) (v43a_0_t10 ws ra rb rc ps t4 t5 t6 t8 t9 t10 t11) (v43a_0_t11 ws ra rb rc ps t4 t5 t6 t8 t9 t10 t11)) := by
  unfold i43a_0 at h
  unfold v43a_0_t8 v43a_0_t9 v43a_0_t10 v43a_0_t11
  generalize r43a ws ra rb rc ps t4 t5 t6 t8 t9 t10 t11 = r at h ⊢
  rcases r with _ | y
  · cases h
  · cases y <;> first | rfl | cases h
theorem round43a (ws : List (List AV)) (ra : Int) (rb : Int) (rc : Int) (ps : List (List AV)) (t4 : Int) (t5 : Int) (t6 : List (List AV)) (t8 : Int) (t9 : Int) (t10 : Int) (t11 : Int) : round Try.prog Sh (ro 43) L43 lp43a [false, true, false, true, true, true, true, true] [(1, none), (2, none), (4, none), (5, none), (6, none), (8, none), (9, none), (10, none), (11, none)] 0 (s43a ws ra rb rc ps t4 t5 t6 t8 t9 t10 t11) =
    cond (decide (t11 < (↑ws.length : Int))) (cond (i43aa_0 ws ra rb rc ps t4 t5 t6 t9 t10 t11 t8 0) (cond (inb t11 ws.length) (cond (inb (fI (ws.getD t11.toNat []) 0) ps.length) (some (.nrm, s43a ws ra rb rc ps t4 t5 t6 (v43aa_0_t8 ws ra rb rc ps t4 t5 t6 t9 t10 t11 t8 0) (IntKind.i64.wrap (t9 - fI (ps.getD (fI (ws.getD t11.toNat []) 0).toNat []) 1)) (fI (ps.getD (fI (ws.getD t11.toNat []) 0).toNat []) 3) (IntKind.i64.wrap (t11 + 1)))) (none)) (none)) (none)) (some (.ext 0, o43a_0 ws ra rb rc ps t4 t5 t6 t8 t9 t10 t11)) := by kernel_rfl
theorem rnd43a (ws : List (List AV)) (ra : Int) (rb : Int) (rc : Int) (ps : List (List AV)) (t4 : Int) (t5 : Int) (t6 : List (List AV)) (x : S43a) : round Try.prog Sh (ro 43) L43 lp43a [false, true, false, true, true, true, true, true] [(1, none), (2, none), (4, none), (5, none), (6, none), (8, none), (9, none), (10, none), (11, none)] 0 ((fun x => s43a ws ra rb rc ps t4 t5 t6 x.t8 x.t9 x.t10 x.t11) x) = toR (fun x => s43a ws ra rb rc ps t4 t5 t6 x.t8 x.t9 x.t10 x.t11) (ou43a ws ra rb rc ps t4 t5 t6) (stp43a ws ra rb rc ps t4 t5 t6 x.t8 x.t9 x.t10 x.t11) := by
  refine (round43a _ _ _ _ _ _ _ _ _ _ _ _ ).trans ?_
  unfold stp43a
  simp only [toR_cond]
  rfl
theorem lok43a {st : St} {outs : List (Bool × Ex × St)} {e : Ex} {s : St} (hl : l43a st = some outs) (hch : Chosen outs e s) :
    ∃ keep nb, 0 ≤ nb ∧ LB Try.prog Sh (ro 43) L43 lp43a [false, true, false, true, true, true, true, true] keep nb st e s := by
  unfold l43a at hl
  split at hl
  · rename_i ws ra rb rc ps t4 t5 t6 t8 t9 t10 t11 hno
    cases hl
    have hno := normW_norm hno
    refine ⟨_, _, ?_, .enter hno ?_⟩
    · decide
    have main := fun y h => LB_run (x := (⟨t8, t9, t10, t11⟩ : S43a)) (y := y) (nb := 0) (fun y => by cases y <;> simp [ou43a]) (rnd43a ws ra rb rc ps t4 t5 t6) h
    obtain ⟨x, hx, hg, rfl, rfl⟩ := chosen_any hch
    simp only [List.mem_cons, List.not_mem_nil, or_false] at hx
    subst hx
    exact main _ (is43a_0 ws ra rb rc ps t4 t5 t6 t8 t9 t10 t11 hg)
  · cases hl
theorem L43_ok (q : Pl) (c : Code) (hq : locate c43 q.reverse = some (.loop c)) (st : St) (outs : List (Bool × Ex × St)) (e : Ex) (s : St) (hl : L43 q st = some outs) (hch : Chosen outs e s) :
    ∃ keep nb, 0 ≤ nb ∧ LB Try.prog Sh (ro 43) L43 c q keep nb st e s := by
  unfold L43 at hl
  split at hl
  · have : locate c43 ([false, true, false, false, false, true, false, false, true, false, true, true, true, true, true] : Pl).reverse = some (.loop lp43aa) := by kernel_rfl
    rw [this] at hq
    cases hq
    exact lok43aa hl hch
  · have : locate c43 ([false, true, false, true, true, true, true, true] : Pl).reverse = some (.loop lp43a) := by kernel_rfl
    rw [this] at hq
    cases hq
    exact lok43a hl hch
  · cases hl
theorem lok43 : LOK Try.prog Sh (ro 43) L43 0 false c43 [] :=
  lok_lo L43_ok c43 [] false (locate_nil _) (by kernel_rfl)
noncomputable def t43 (ra rb rc : Int) (ps : List (List AV)) (ws : List (List AV)) : Tr ((Int) × (Int)) :=
  .cn (g67 ra rb rc ps) (.cn (w67_1 ra rb rc ps == 0) (.cn (g65 ra rb rc ps ws) (.cn (!w65_0 ra rb rc ps ws) (.lf (0, 8)) (.cn (w67_1 ra rb rc ps != 0) (.lf (0, w67_1 ra rb rc ps)) (.cn (i43a_0 ws ra rb rc ps 0 0 (w67_0 ra rb rc ps) 0 ra rb 0) (.lf (v43a_0_t8 ws ra rb rc ps 0 0 (w67_0 ra rb rc ps) 0 ra rb 0, 0)) (.nn)))) (.nn)) (.cn (w67_1 ra rb rc ps != 0) (.lf (0, w67_1 ra rb rc ps)) (.cn (i43a_0 ws ra rb rc ps 0 0 (w67_0 ra rb rc ps) 0 ra rb 0) (.lf (v43a_0_t8 ws ra rb rc ps 0 0 (w67_0 ra rb rc ps) 0 ra rb 0, 0)) (.nn)))) (.nn)
noncomputable def g43 (ra rb rc : Int) (ps : List (List AV)) (ws : List (List AV)) : Bool := (t43 ra rb rc ps ws).g
noncomputable def w43_0 (ra rb rc : Int) (ps : List (List AV)) (ws : List (List AV)) : Int := (t43 ra rb rc ps ws).val.1
noncomputable def w43_1 (ra rb rc : Int) (ps : List (List AV)) (ws : List (List AV)) : Int := (t43 ra rb rc ps ws).val.2
theorem eq43 (ra rb rc : Int) (ps : List (List AV)) (ws : List (List AV)) : evF Try.prog Sh (ro 43) L43 Try.f43 [.agg [.i .i64 ra, .i .i64 rb, .i .i64 rc, .rs 31 ps], .rs 3 ws] = (t43 ra rb rc ps ws).opt (fun (x : (Int) × (Int)) => (.tup [.i .i64 x.1, .i .i64 x.2] : AV)) := by kernel_rfl
theorem con43 (ra rb rc : Int) (ps : List (List AV)) (ws : List (List AV)) (h : g43 ra rb rc ps ws = true) : Con Try.prog 43 [.agg [.i .i64 ra, .i .i64 rb, .i .i64 rc, .rs 31 ps], .rs 3 ws] [] (.tup [.i .i64 (w43_0 ra rb rc ps ws), .i .i64 (w43_1 ra rb rc ps ws)]) [] :=
  con_of Sh_ok mixed Try.func43 (c := c43) rfl (names 43 _ Try.func43) lok43 ((eq43 ra rb rc ps ws).trans (Tr.sound _ _ h))
noncomputable def e43 (args : List AV) (rows : List Blk) : Option (Bool × AV × List Blk) := match args, rows with
  | [.agg [.i .i64 ra, .i .i64 rb, .i .i64 rc, .rs 31 ps], .rs 3 ws], [] => some (g43 ra rb rc ps ws, .tup [.i .i64 (w43_0 ra rb rc ps ws), .i .i64 (w43_1 ra rb rc ps ws)], [])
  | _, _ => none
theorem e43_ok (args : List AV) (rows : List Blk) (pre : Bool) (v : AV) (rows' : List Blk) (h : e43 args rows = some (pre, v, rows')) (hp : pre = true) : Con Try.prog 43 args rows v rows' := by
  unfold e43 at h
  split at h
  · cases h; exact con43 _ _ _ _ _ hp
  · cases h
-- SPEC 43
end Go.Proofs.Ytgifjphinkbcaaa

set_option maxRecDepth 100000
set_option linter.unusedVariables false
namespace Go.Proofs.Ytgifjphinkbcaaa
open Go Go.Ev
/-! ### Rank -/
/-- The number of a row. -/
def rankL (ps : List (List AV)) (c : Nat) : Nat → Nat → List Int → Int
  | _, _, [] => 0
  | n, h, k :: ks => sm ps c n h k.toNat + rankL ps c (n - wd ps k.toNat) (rt ps k.toNat) ks
theorem fitsL_cons {ps : List (List AV)} {c n h : Nat} {k : Int} {ks : List Int} (hps : okPs ps) (h1 : fitsL ps (c : Int) (n : Int) (h : Int) (k :: ks) = true) :
    ∃ q : Nat, k = (q : Int) ∧ q < ps.length ∧ lf ps q = h ∧ wd ps q ≤ n ∧ 0 < n ∧ fitsL ps (c : Int) ((n - wd ps q : Nat) : Int) (rt ps q : Int) ks = true := by
  have h1 : (isK ps k && (fI (pk ps k) 2 == (h : Int) && decide (fI (pk ps k) 1 ≤ (n : Int)) && fitsL ps (c : Int) ((n : Int) - fI (pk ps k) 1) (fI (pk ps k) 3) ks)) = true := h1
  rw [Bool.and_eq_true, Bool.and_eq_true, Bool.and_eq_true, beq_iff_eq, decide_eq_true_eq] at h1
  obtain ⟨h2, ⟨h3, h4⟩, h5⟩ := h1
  obtain ⟨q, rfl, hq⟩ := isK_nat h2
  obtain ⟨p1, p2, p3, p4, p5, p6, p7⟩ := pc_nat hps hq
  have e : pk ps (q : Int) = ps.getD q [] := rfl
  rw [e] at h3 h4 h5
  rw [p1] at h4 h5
  rw [p2] at h3
  rw [p3] at h5
  refine ⟨q, rfl, hq, by omega, by omega, by omega, ?_⟩
  have : ((n - wd ps q : Nat) : Int) = (n : Int) - (wd ps q : Int) := by omega
  rw [this]
  exact h5
theorem fitsL_mk {ps : List (List AV)} {c n h q : Nat} {ks : List Int} (hps : okPs ps) (hq : q < ps.length) (h1 : lf ps q = h) (h2 : wd ps q ≤ n) (h3 : fitsL ps (c : Int) ((n - wd ps q : Nat) : Int) (rt ps q : Int) ks = true) : fitsL ps (c : Int) (n : Int) (h : Int) ((q : Int) :: ks) = true := by
  show (isK ps (q : Int) && (fI (pk ps (q : Int)) 2 == (h : Int) && decide (fI (pk ps (q : Int)) 1 ≤ (n : Int)) && fitsL ps (c : Int) ((n : Int) - fI (pk ps (q : Int)) 1) (fI (pk ps (q : Int)) 3) ks)) = true
  obtain ⟨p1, p2, p3, p4, p5, p6, p7⟩ := pc_nat hps hq
  have e : pk ps (q : Int) = ps.getD q [] := rfl
  rw [e, p1, p2, p3, Bool.and_eq_true, Bool.and_eq_true, Bool.and_eq_true, beq_iff_eq, decide_eq_true_eq]
  have : ((n - wd ps q : Nat) : Int) = (n : Int) - (wd ps q : Int) := by omega
  rw [this] at h3
  refine ⟨?_, ⟨by omega, by omega⟩, h3⟩
  unfold isK
  rw [Bool.and_eq_true, decide_eq_true_eq, decide_eq_true_eq]
  omega
theorem rankL_lt {ps : List (List AV)} {c : Nat} (hps : okPs ps) : ∀ {ks : List Int} {n h : Nat}, cnt ps c n h ≤ 1000000000000000 → fitsL ps (c : Int) (n : Int) (h : Int) ks = true → 0 ≤ rankL ps c n h ks ∧ rankL ps c n h ks < cnt ps c n h
  | [], n, h, hs, hf => by
    have hf : ((n : Int) == 0 && (h : Int) == (c : Int)) = true := hf
    rw [Bool.and_eq_true, beq_iff_eq, beq_iff_eq] at hf
    obtain rfl : n = 0 := by omega
    obtain rfl : h = c := by omega
    rw [cnt_zero, if_pos rfl]
    show (0 : Int) ≤ 0 ∧ (0 : Int) < 1
    omega
  | k :: ks, n, h, hs, hf => by
    obtain ⟨q, rfl, hq, h1, h2, h3, h4⟩ := fitsL_cons hps hf
    have hsu := sm_succ (c := c) (h := h) hps h3 hq hs
    rw [if_pos ⟨h1, h2⟩] at hsu
    have hl := sm_le (c := c) (h := h) hps h3 (q + 1)
    have hl' := sm_le (c := c) (h := h) hps h3 q
    have := rankL_lt (c := c) hps (n := n - wd ps q) (h := rt ps q) (by omega) h4
    show 0 ≤ sm ps c n h q + rankL ps c (n - wd ps q) (rt ps q) ks ∧ sm ps c n h q + rankL ps c (n - wd ps q) (rt ps q) ks < _
    omega
theorem take_getD {ps : List (List AV)} {q j : Nat} (h : j < q) : (ps.take q).getD j [] = ps.getD j [] := by
  rw [List.getD_eq_getElem?_getD, List.getD_eq_getElem?_getD, List.getElem?_take, if_pos h]
theorem inner42 {ra rb rc t4 t5 t11 t31 t32 : Int} {ps ws : List (List AV)} {c N n h q : Nat} {s : Int} (hps : okPs ps) (hN : N ≤ 2000) (hn : 0 < n) (hnN : n ≤ N) (hq : q < ps.length) (hs0 : 0 ≤ s) (hs : s + cnt ps c n h ≤ 1000000000000000) :
    ∃ a, r42aa ra rb rc ps t4 t5 (tab (N + 1) (tabs ps c N)) t11 ws t31 t32 (ps.take q) ((ps.take q).length : Int) (n : Int) (h : Int) s 0 = some (.x0 (s + sm ps c n h q) a) := by
  have hl := hps.1
  have hql : (ps.take q).length = q := by rw [List.length_take]; omega
  have hco0 := cnt_ok ps c n h
  have run : ∃ y, r42aa ra rb rc ps t4 t5 (tab (N + 1) (tabs ps c N)) t11 ws t31 t32 (ps.take q) ((ps.take q).length : Int) (n : Int) (h : Int) s 0 = some y ∧ ∃ a, y = .x0 (s + sm ps c n h q) a := by
    unfold r42aa
    refine run_for (S := Int) q (fun k s => (⟨s, (k : Int)⟩ : S42aa)) (fun k u => u = s + sm ps c n h k) (fun _ _ (y : T42aa) => ∃ a, y = .x0 (s + sm ps c n h q) a) (fun k u hk hi => ?_) (fun u hi => ?_) 0 s (Nat.zero_le _) (by rw [sm_zero]; omega)
    · subst hi
      left
      have hkl : k < ps.length := by omega
      obtain ⟨p1, p2, p3, p4, p5, p6, p7⟩ := pc_nat hps hkl
      have hsu := sm_succ (c := c) (h := h) hps hn hkl (by omega)
      have hsl := sm_le (c := c) (h := h) hps hn k
      have hsl2 := sm_le (c := c) (h := h) hps hn (k + 1)
      refine ⟨s + sm ps c n h (k + 1), ?_, rfl, fun y hy => hy⟩
      show stp42aa ra rb rc ps t4 t5 (tab (N + 1) (tabs ps c N)) t11 ws t31 t32 (ps.take q) ((ps.take q).length : Int) (n : Int) (h : Int) (s + sm ps c n h k) (k : Int) = _
      unfold stp42aa
      rw [Int.toNat_natCast, hql]
      simp only [lt_true hk, inb_true hk, cond_true, wrap_succ (show k < 9223372036854775807 by omega), g71_true, w71_all, take_getD hk, p1, p2, p3]
      by_cases hc : lf ps k = h ∧ wd ps k ≤ n
      · rw [if_pos hc] at hsu
        have e1 : ((lf ps k : Int) == (h : Int) && decide ((wd ps k : Int) ≤ (n : Int))) = true := by
          rw [Bool.and_eq_true, decide_eq_true_eq, beq_iff_eq]
          omega
        have e2 : IntKind.i64.wrap ((n : Int) - (wd ps k : Int)) = ((n - wd ps k : Nat) : Int) := (wrap64 (by omega) (by omega)).trans (by omega)
        obtain ⟨t1, t2⟩ := tab_cnt (ps := ps) (c := c) (N := N) (n := n - wd ps k) (h := rt ps k) (by omega) p7
        have hco := cnt_ok ps c (n - wd ps k) (rt ps k)
        simp only [e1, e2, t1, t2, cond_true]
        rw [wrap64 (by omega) (by omega), hsu, Int.add_assoc]
      · rw [if_neg hc] at hsu
        have e1 : ((lf ps k : Int) == (h : Int) && decide ((wd ps k : Int) ≤ (n : Int))) = false := by
          rw [Bool.eq_false_iff]
          intro h'
          rw [Bool.and_eq_true, decide_eq_true_eq, beq_iff_eq] at h'
          exact hc (by omega)
        rw [e1, hsu, Int.add_zero]
        rfl
    · subst hi
      refine ⟨_, ?_, (q : Int), rfl⟩
      show stp42aa ra rb rc ps t4 t5 (tab (N + 1) (tabs ps c N)) t11 ws t31 t32 (ps.take q) ((ps.take q).length : Int) (n : Int) (h : Int) (s + sm ps c n h q) (q : Int) = _
      unfold stp42aa
      rw [hql, lt_false]; rfl
  obtain ⟨y, h1, a, h2⟩ := run
  exact ⟨a, by rw [h1, h2]⟩
theorem inner43 {ra rb rc t4 t5 : Int} {ps ws : List (List AV)} {c N n h q j : Nat} {s : Int} (hps : okPs ps) (hN : N ≤ 2000) (hn : 0 < n) (hnN : n ≤ N) (hq : q < ps.length) (hj : j < ws.length) (hw : fI (ws.getD j []) 0 = (q : Int)) (hs0 : 0 ≤ s) (hs : s + cnt ps c n h ≤ 1000000000000000) :
    ∃ a, r43aa ws ra rb rc ps t4 t5 (tab (N + 1) (tabs ps c N)) (n : Int) (h : Int) (j : Int) s 0 = some (.x0 (s + sm ps c n h q) a) := by
  have hl := hps.1
  have hco0 := cnt_ok ps c n h
  have run : ∃ y, r43aa ws ra rb rc ps t4 t5 (tab (N + 1) (tabs ps c N)) (n : Int) (h : Int) (j : Int) s 0 = some y ∧ ∃ a, y = .x0 (s + sm ps c n h q) a := by
    unfold r43aa
    refine run_for (S := Int) q (fun k s => (⟨s, (k : Int)⟩ : S43aa)) (fun k u => u = s + sm ps c n h k) (fun _ _ (y : T43aa) => ∃ a, y = .x0 (s + sm ps c n h q) a) (fun k u hk hi => ?_) (fun u hi => ?_) 0 s (Nat.zero_le _) (by rw [sm_zero]; omega)
    · subst hi
      left
      have hkl : k < ps.length := by omega
      obtain ⟨p1, p2, p3, p4, p5, p6, p7⟩ := pc_nat hps hkl
      have hsu := sm_succ (c := c) (h := h) hps hn hkl (by omega)
      have hsl := sm_le (c := c) (h := h) hps hn k
      have hsl2 := sm_le (c := c) (h := h) hps hn (k + 1)
      refine ⟨s + sm ps c n h (k + 1), ?_, rfl, fun y hy => hy⟩
      show stp43aa ws ra rb rc ps t4 t5 (tab (N + 1) (tabs ps c N)) (n : Int) (h : Int) (j : Int) (s + sm ps c n h k) (k : Int) = _
      unfold stp43aa
      rw [Int.toNat_natCast, Int.toNat_natCast, hw]
      simp only [lt_true hk, inb_true hj, inb_true hkl, cond_true, wrap_succ (show k < 9223372036854775807 by omega), p1, p2, p3]
      by_cases hA : lf ps k = h
      · have e1 : ((lf ps k : Int) == (h : Int)) = true := by simp [hA]
        rw [e1]
        by_cases hW : wd ps k ≤ n
        · rw [if_pos ⟨hA, hW⟩] at hsu
          have hd : decide ((wd ps k : Int) ≤ (n : Int)) = true := decide_eq_true (by omega)
          have e2 : IntKind.i64.wrap ((n : Int) - (wd ps k : Int)) = ((n - wd ps k : Nat) : Int) := (wrap64 (by omega) (by omega)).trans (by omega)
          have cc := cts91 p7
          simp only [Int.toNat_natCast, Nat.zero_add, Nat.mul_one] at cc
          have hco := cnt_ok ps c (n - wd ps k) (rt ps k)
          rw [hd, e2]
          simp only [tab_len, inb_true (show n - wd ps k < N + 1 by omega), inb_true p7, Int.toNat_natCast, Nat.zero_add, Nat.mul_one, cc, cond_true, tab_toI (ps := ps) (c := c) (show n - wd ps k ≤ N by omega) p7]
          rw [wrap64 (by omega) (by omega), hsu, Int.add_assoc]
        · rw [if_neg (fun hc => hW hc.2)] at hsu
          have hd : decide ((wd ps k : Int) ≤ (n : Int)) = false := decide_eq_false (by omega)
          rw [hd, hsu, Int.add_zero]
          rfl
      · rw [if_neg (fun hc => hA hc.1)] at hsu
        have e1 : ((lf ps k : Int) == (h : Int)) = false := by
          rw [beq_eq_false_iff_ne]
          omega
        rw [e1, hsu, Int.add_zero]
        rfl
    · subst hi
      refine ⟨_, ?_, (q : Int), rfl⟩
      show stp43aa ws ra rb rc ps t4 t5 (tab (N + 1) (tabs ps c N)) (n : Int) (h : Int) (j : Int) (s + sm ps c n h q) (q : Int) = _
      unfold stp43aa
      rw [Int.toNat_natCast, hw, inb_true hj, lt_false]; rfl
  obtain ⟨y, h1, a, h2⟩ := run
  exact ⟨a, by rw [h1, h2]⟩
theorem loop42 {ra rb rc t4 t5 : Int} {ps ws : List (List AV)} {c N b : Nat} (hps : okPs ps) (hN : N ≤ 2000) (hw : ws.length < 9223372036854775807) (hs : cnt ps c N b ≤ 1000000000000000) (hf : fitsL ps (c : Int) (N : Int) (b : Int) (nums ws) = true) :
    ∃ a1 a2 a3, r42a ra rb rc ps t4 t5 (tab (N + 1) (tabs ps c N)) ws (ws.length : Int) 0 0 (N : Int) (b : Int) = some (.x0 (rankL ps c N b (nums ws)) a1 a2 a3) := by
  have hl := hps.1
  have run : ∃ y, r42a ra rb rc ps t4 t5 (tab (N + 1) (tabs ps c N)) ws (ws.length : Int) 0 0 (N : Int) (b : Int) = some y ∧ ∃ a1 a2 a3, y = .x0 (0 + rankL ps c N b ((nums ws).drop 0)) a1 a2 a3 := by
    unfold r42a
    refine run_for (S := Int × Nat × Nat) ws.length (fun k s => (⟨s.1, (k : Int), (s.2.1 : Int), (s.2.2 : Int)⟩ : S42a)) (fun k s => s.2.1 ≤ N ∧ 0 ≤ s.1 ∧ s.1 + cnt ps c s.2.1 s.2.2 ≤ 1000000000000000 ∧ fitsL ps (c : Int) (s.2.1 : Int) (s.2.2 : Int) ((nums ws).drop k) = true)
      (fun k s (y : T42a) => ∃ a1 a2 a3, y = .x0 (s.1 + rankL ps c s.2.1 s.2.2 ((nums ws).drop k)) a1 a2 a3) (fun k s hk hi => ?_) (fun s hi => ?_) 0 (0, N, b) (Nat.zero_le _) ⟨Nat.le_refl _, Int.le_refl _, by show 0 + cnt ps c N b ≤ _; omega, by rw [List.drop_zero]; exact hf⟩
    · obtain ⟨s, n, h⟩ := s
      obtain ⟨i1, i2, i3, i4⟩ := hi
      simp only at i1 i2 i3 i4
      left
      rw [nums_drop hk] at i4 ⊢
      obtain ⟨q, hq, hql, h1, h2, h3, h4⟩ := fitsL_cons hps i4
      obtain ⟨p1, p2, p3, p4, p5, p6, p7⟩ := pc_nat hps hql
      have hco := cnt_ok ps c n h
      have hsu := sm_succ (c := c) (h := h) hps h3 hql (by omega)
      rw [if_pos ⟨h1, h2⟩] at hsu
      have hsl := sm_le (c := c) (h := h) hps h3 (q + 1)
      have hsl' := sm_le (c := c) (h := h) hps h3 q
      obtain ⟨a, ha⟩ := inner42 (ra := ra) (rb := rb) (rc := rc) (t4 := t4) (t5 := t5) (t11 := (q : Int)) (t31 := (ws.length : Int)) (t32 := (k : Int)) (ws := ws) hps hN h3 i1 hql i2 i3
      refine ⟨(s + sm ps c n h q, n - wd ps q, rt ps q), ?_, ⟨by show n - wd ps q ≤ N; omega, by show 0 ≤ s + sm ps c n h q; omega, by show s + sm ps c n h q + cnt ps c (n - wd ps q) (rt ps q) ≤ _; omega, h4⟩, ?_⟩
      · show stp42a ra rb rc ps t4 t5 (tab (N + 1) (tabs ps c N)) ws (ws.length : Int) s (k : Int) (n : Int) (h : Int) = _
        unfold stp42a
        rw [Int.toNat_natCast, hq]
        have d1 : (decide (0 ≤ (q : Int)) && decide ((q : Int) ≤ (ps.length : Int))) = true := by
          rw [Bool.and_eq_true, decide_eq_true_eq, decide_eq_true_eq]
          omega
        have e2 : IntKind.i64.wrap ((n : Int) - (wd ps q : Int)) = ((n - wd ps q : Nat) : Int) := (wrap64 (by omega) (by omega)).trans (by omega)
        unfold i42aa_0 v42aa_0_t8
        simp only [lt_true hk, inb_true hk, inb_true hql, d1, cond_true, wrap_succ (show k < 9223372036854775807 by omega), g71_true, w71_all, List.drop_zero, Int.toNat_natCast, p1, p2, p3, e2, ha]
      · rintro y ⟨a1, a2, a3, rfl⟩
        refine ⟨a1, a2, a3, ?_⟩
        show T42a.x0 (s + sm ps c n h q + rankL ps c (n - wd ps q) (rt ps q) ((nums ws).drop (k + 1))) a1 a2 a3 = _
        rw [hq]
        show _ = T42a.x0 (s + (sm ps c n h q + rankL ps c (n - wd ps q) (rt ps q) ((nums ws).drop (k + 1)))) a1 a2 a3
        rw [Int.add_assoc]
    · obtain ⟨s, n, h⟩ := s
      refine ⟨.x0 s (ws.length : Int) (n : Int) (h : Int), ?_, (ws.length : Int), (n : Int), (h : Int), ?_⟩
      · show stp42a ra rb rc ps t4 t5 (tab (N + 1) (tabs ps c N)) ws (ws.length : Int) s (ws.length : Int) (n : Int) (h : Int) = _
        unfold stp42a
        rw [lt_false]; rfl
      · rw [List.drop_of_length_le (by rw [nums_len]; exact Nat.le_refl _)]
        show T42a.x0 s _ _ _ = T42a.x0 (s + 0) _ _ _
        rw [Int.add_zero]
  obtain ⟨y, h1, a1, a2, a3, h2⟩ := run
  exact ⟨a1, a2, a3, by rw [h1, h2, List.drop_zero, Int.zero_add]⟩
theorem loop43 {ra rb rc t4 t5 : Int} {ps ws : List (List AV)} {c N b : Nat} (hps : okPs ps) (hN : N ≤ 2000) (hw : ws.length < 9223372036854775807) (hs : cnt ps c N b ≤ 1000000000000000) (hf : fitsL ps (c : Int) (N : Int) (b : Int) (nums ws) = true) :
    ∃ a1 a2 a3, r43a ws ra rb rc ps t4 t5 (tab (N + 1) (tabs ps c N)) 0 (N : Int) (b : Int) 0 = some (.x0 (rankL ps c N b (nums ws)) a1 a2 a3) := by
  have hl := hps.1
  have run : ∃ y, r43a ws ra rb rc ps t4 t5 (tab (N + 1) (tabs ps c N)) 0 (N : Int) (b : Int) 0 = some y ∧ ∃ a1 a2 a3, y = .x0 (0 + rankL ps c N b ((nums ws).drop 0)) a1 a2 a3 := by
    unfold r43a
    refine run_for (S := Int × Nat × Nat) ws.length (fun k s => (⟨s.1, (s.2.1 : Int), (s.2.2 : Int), (k : Int)⟩ : S43a)) (fun k s => s.2.1 ≤ N ∧ 0 ≤ s.1 ∧ s.1 + cnt ps c s.2.1 s.2.2 ≤ 1000000000000000 ∧ fitsL ps (c : Int) (s.2.1 : Int) (s.2.2 : Int) ((nums ws).drop k) = true)
      (fun k s (y : T43a) => ∃ a1 a2 a3, y = .x0 (s.1 + rankL ps c s.2.1 s.2.2 ((nums ws).drop k)) a1 a2 a3) (fun k s hk hi => ?_) (fun s hi => ?_) 0 (0, N, b) (Nat.zero_le _) ⟨Nat.le_refl _, Int.le_refl _, by show 0 + cnt ps c N b ≤ _; omega, by rw [List.drop_zero]; exact hf⟩
    · obtain ⟨s, n, h⟩ := s
      obtain ⟨i1, i2, i3, i4⟩ := hi
      simp only at i1 i2 i3 i4
      left
      rw [nums_drop hk] at i4 ⊢
      obtain ⟨q, hq, hql, h1, h2, h3, h4⟩ := fitsL_cons hps i4
      obtain ⟨p1, p2, p3, p4, p5, p6, p7⟩ := pc_nat hps hql
      have hco := cnt_ok ps c n h
      have hsu := sm_succ (c := c) (h := h) hps h3 hql (by omega)
      rw [if_pos ⟨h1, h2⟩] at hsu
      have hsl := sm_le (c := c) (h := h) hps h3 (q + 1)
      have hsl' := sm_le (c := c) (h := h) hps h3 q
      obtain ⟨a, ha⟩ := inner43 (ra := ra) (rb := rb) (rc := rc) (t4 := t4) (t5 := t5) (ws := ws) hps hN h3 i1 hql hk hq i2 i3
      refine ⟨(s + sm ps c n h q, n - wd ps q, rt ps q), ?_, ⟨by show n - wd ps q ≤ N; omega, by show 0 ≤ s + sm ps c n h q; omega, by show s + sm ps c n h q + cnt ps c (n - wd ps q) (rt ps q) ≤ _; omega, h4⟩, ?_⟩
      · show stp43a ws ra rb rc ps t4 t5 (tab (N + 1) (tabs ps c N)) s (n : Int) (h : Int) (k : Int) = _
        unfold stp43a
        rw [Int.toNat_natCast, hq]
        have e2 : IntKind.i64.wrap ((n : Int) - (wd ps q : Int)) = ((n - wd ps q : Nat) : Int) := (wrap64 (by omega) (by omega)).trans (by omega)
        unfold i43aa_0 v43aa_0_t8
        simp only [lt_true hk, inb_true hk, inb_true hql, cond_true, wrap_succ (show k < 9223372036854775807 by omega), Int.toNat_natCast, p1, p3, e2, ha]
      · rintro y ⟨a1, a2, a3, rfl⟩
        refine ⟨a1, a2, a3, ?_⟩
        show T43a.x0 (s + sm ps c n h q + rankL ps c (n - wd ps q) (rt ps q) ((nums ws).drop (k + 1))) a1 a2 a3 = _
        rw [hq]
        show _ = T43a.x0 (s + (sm ps c n h q + rankL ps c (n - wd ps q) (rt ps q) ((nums ws).drop (k + 1)))) a1 a2 a3
        rw [Int.add_assoc]
    · obtain ⟨s, n, h⟩ := s
      refine ⟨.x0 s (n : Int) (h : Int) (ws.length : Int), ?_, (n : Int), (h : Int), (ws.length : Int), ?_⟩
      · show stp43a ws ra rb rc ps t4 t5 (tab (N + 1) (tabs ps c N)) s (n : Int) (h : Int) (ws.length : Int) = _
        unfold stp43a
        rw [lt_false]; rfl
      · rw [List.drop_of_length_le (by rw [nums_len]; exact Nat.le_refl _)]
        show T43a.x0 s _ _ _ = T43a.x0 (s + 0) _ _ _
        rw [Int.add_zero]
  obtain ⟨y, h1, a1, a2, a3, h2⟩ := run
  exact ⟨a1, a2, a3, by rw [h1, h2, List.drop_zero, Int.zero_add]⟩
theorem rank_err {ra rb rc : Int} {ps ws : List (List AV)} (h0 : w50_1 ra rb rc ps ≠ 0) (hg : g50 ra rb rc ps = true) (hg' : g67 ra rb rc ps = true) (he : w67_1 ra rb rc ps = w50_1 ra rb rc ps) :
    (g42 ra rb rc ps ws = true ∧ w42_1 ra rb rc ps ws = w50_1 ra rb rc ps ∧ w42_0 ra rb rc ps ws = 0) ∧ g43 ra rb rc ps ws = true ∧ w43_1 ra rb rc ps ws = w50_1 ra rb rc ps ∧ w43_0 ra rb rc ps ws = 0 := by
  have hz : (w50_1 ra rb rc ps != 0) = true := by simpa using h0
  have hz2 : (w50_1 ra rb rc ps == 0) = false := by simpa using h0
  unfold g42 w42_1 w42_0 t42 g43 w43_1 w43_0 t43
  rw [hg, hg', he, hz, hz2]
  exact ⟨⟨rfl, rfl, rfl⟩, rfl, rfl, rfl⟩
theorem rank_val {ps ws : List (List AV)} {n b c : Nat} (hF : Fine (n : Int) (b : Int) (c : Int) ps) (hn : n ≤ 2000) (hb : b < 10) (hc : c < 10) (hw : w29_0 (n : Int) (b : Int) (c : Int) ps = 0) (hs : cnt ps c n b ≤ 1000000000000000) (hws : ws.length < 9223372036854775807) :
    (g42 (n : Int) (b : Int) (c : Int) ps ws = true ∧ w42_1 (n : Int) (b : Int) (c : Int) ps ws = (if fitsL ps (c : Int) (n : Int) (b : Int) (nums ws) then 0 else 8) ∧ w42_0 (n : Int) (b : Int) (c : Int) ps ws = (if fitsL ps (c : Int) (n : Int) (b : Int) (nums ws) then rankL ps c n b (nums ws) else 0)) ∧
    g43 (n : Int) (b : Int) (c : Int) ps ws = true ∧ w43_1 (n : Int) (b : Int) (c : Int) ps ws = (if fitsL ps (c : Int) (n : Int) (b : Int) (nums ws) then 0 else 8) ∧ w43_0 (n : Int) (b : Int) (c : Int) ps ws = (if fitsL ps (c : Int) (n : Int) (b : Int) (nums ws) then rankL ps c n b (nums ws) else 0) := by
  have hps := hF.ps
  obtain ⟨g1, g2, g3⟩ := counted_val hps hn hb hc hw
  rcases g3 with ⟨h1, _⟩ | ⟨_, h1, h2, h3, h4⟩
  · omega
  obtain ⟨f1, f2⟩ := fits_val hF hws
  obtain ⟨r1, r2⟩ := rfits_val hF hws
  have p0 : w52_0 (n : Int) (b : Int) (c : Int) ps = (n : Int) := rfl
  have p1 : w52_1 (n : Int) (b : Int) (c : Int) ps = (b : Int) := rfl
  have z1 : ((0 : Int) != 0) = false := by decide
  have z2 : ((0 : Int) == 0) = true := by decide
  unfold g42 w42_1 w42_0 t42 g43 w43_1 w43_0 t43
  rw [g1, g2, h1, h2, h3, h4, z1, z2, p0, p1, f1, f2, r1, r2]
  cases hf : fitsL ps (c : Int) (n : Int) (b : Int) (nums ws) with
  | false => exact ⟨⟨rfl, rfl, rfl⟩, rfl, rfl, rfl⟩
  | true =>
    obtain ⟨a1, a2, a3, ha⟩ := loop42 (ra := (n : Int)) (rb := (b : Int)) (rc := (c : Int)) (t4 := 0) (t5 := 0) hps hn hws hs hf
    obtain ⟨b1, b2, b3, hb'⟩ := loop43 (ra := (n : Int)) (rb := (b : Int)) (rc := (c : Int)) (t4 := 0) (t5 := 0) hps hn hws hs hf
    unfold i42a_0 i43a_0 v42a_0_t8 v43a_0_t8
    rw [ha, hb']
    exact ⟨⟨rfl, rfl, rfl⟩, rfl, rfl, rfl⟩
end Go.Proofs.Ytgifjphinkbcaaa

set_option maxRecDepth 100000
set_option linter.unusedVariables false
namespace Go.Proofs.Ytgifjphinkbcaaa
open Go Go.Ev
/-! ### Numbers and rows -/
theorem NthR_len {ps : List (List AV)} {c n h : Nat} {x : Int} {row : List Nat} (hps : okPs ps) (h1 : NthR ps c n h x row) : cnt ps c n h ≤ 1000000000000000 → row.length ≤ n := by
  induction h1 with
  | nil => exact fun _ => Nat.le_refl _
  | cons h0 hi ha hb hr ih =>
    intro hs
    obtain ⟨⟨_, hw⟩, _, _, h4⟩ := sm_fits hps h0 hi hs ha hb
    obtain ⟨p1, p2, p3, p4, p5, p6, p7⟩ := pc_nat hps hi
    have := ih h4
    simp only [List.length_cons]
    omega
theorem fitsL_nil (ps : List (List AV)) (c : Nat) : fitsL ps (c : Int) ((0 : Nat) : Int) (c : Int) [] = true := by
  show (((0 : Nat) : Int) == 0 && (c : Int) == (c : Int)) = true
  simp
theorem NthR_fits {ps : List (List AV)} {c n h : Nat} {x : Int} {row : List Nat} (hps : okPs ps) (h1 : NthR ps c n h x row) : cnt ps c n h ≤ 1000000000000000 → fitsL ps (c : Int) (n : Int) (h : Int) (rowI row) = true ∧ rankL ps c n h (rowI row) = x := by
  induction h1 with
  | nil => exact fun _ => ⟨fitsL_nil ps c, rfl⟩
  | cons h0 hi ha hb hr ih =>
    intro hs
    obtain ⟨⟨hl, hw⟩, _, _, h4⟩ := sm_fits hps h0 hi hs ha hb
    obtain ⟨i1, i2⟩ := ih h4
    refine ⟨fitsL_mk hps hi hl hw i1, ?_⟩
    show sm ps c _ _ ((_ : Nat) : Int).toNat + rankL ps c _ _ (rowI _) = _
    rw [Int.toNat_natCast, i2]
    omega
/-- One row is ahead of another one. -/
def ahead : List Int → List Int → Bool
  | [], [] => false
  | [], _ :: _ => true
  | _ :: _, [] => false
  | a :: x, b :: y => if a = b then ahead x y else decide (a < b)
theorem NthR_ahead {ps : List (List AV)} {c n h : Nat} {x y : Int} {r s : List Nat} (hps : okPs ps) (h1 : NthR ps c n h x r) : cnt ps c n h ≤ 1000000000000000 → NthR ps c n h y s → x < y → ahead (rowI r) (rowI s) = true := by
  induction h1 generalizing y s with
  | nil =>
    intro _ h2 hxy
    cases h2 with
    | nil => omega
    | cons h0 _ _ _ _ => omega
  | @cons n h i x r h0 hi ha hb hr ih =>
    intro hs h2 hxy
    cases h2 with
    | nil => omega
    | @cons _ _ j _ s g0 gi ga gb gr =>
      show (if ((i : Nat) : Int) = ((j : Nat) : Int) then ahead (rowI r) (rowI s) else decide (((i : Nat) : Int) < ((j : Nat) : Int))) = true
      by_cases e : i = j
      · subst e
        rw [if_pos rfl]
        obtain ⟨_, _, _, h4⟩ := sm_fits hps h0 hi hs ha hb
        exact ih h4 gr (by omega)
      · rw [if_neg (by omega)]
        refine decide_eq_true ?_
        rcases Nat.lt_trichotomy i j with e' | e' | e'
        · omega
        · exact absurd e' e
        · have := sm_mono (c := c) (h := h) hps h0 hs (show j + 1 ≤ i from e') (by omega)
          omega
theorem before_val {xs ys : List (List AV)} (hx : xs.length < 9223372036854775807) (hy : ys.length < 9223372036854775807) : g44 xs ys = true ∧ w44_0 xs ys = ahead (nums xs) (nums ys) := by
  have hend : ∀ k, k ≤ xs.length → k ≤ ys.length → (k = xs.length ∨ k = ys.length) → ahead ((nums xs).drop k) ((nums ys).drop k) = decide ((xs.length : Int) < (ys.length : Int)) := by
    intro k hkx hky h
    rcases Nat.lt_or_ge k xs.length with h1 | h1
    · have h2 : k = ys.length := by omega
      rw [nums_drop h1, List.drop_of_length_le (l := nums ys) (by rw [nums_len]; omega)]
      exact (decide_eq_false (by omega)).symm
    · rw [List.drop_of_length_le (l := nums xs) (by rw [nums_len]; omega)]
      rcases Nat.lt_or_ge k ys.length with h2 | h2
      · rw [nums_drop h2]
        exact (decide_eq_true (by omega)).symm
      · rw [List.drop_of_length_le (l := nums ys) (by rw [nums_len]; omega)]
        exact (decide_eq_false (by omega)).symm
  have run : ∃ y, r44a xs ys false 0 = some y ∧ (match y with
      | .x0 t _ => t = ahead ((nums xs).drop 0) ((nums ys).drop 0)
      | .x1 _ => decide ((xs.length : Int) < (ys.length : Int)) = ahead ((nums xs).drop 0) ((nums ys).drop 0)) := by
    unfold r44a
    refine run_for (S := Unit) (min xs.length ys.length) (fun k _ => (⟨(k : Int)⟩ : S44a)) (fun _ _ => True) (fun k _ (y : T44a) => match y with
      | .x0 t _ => t = ahead ((nums xs).drop k) ((nums ys).drop k)
      | .x1 _ => decide ((xs.length : Int) < (ys.length : Int)) = ahead ((nums xs).drop k) ((nums ys).drop k)) (fun k _ hk _ => ?_) (fun _ _ => ?_) 0 () (Nat.zero_le _) trivial
    · have hkx : k < xs.length := by omega
      have hky : k < ys.length := by omega
      show (∃ s', stp44a xs ys false (k : Int) = _ ∧ _) ∨ ∃ y, stp44a xs ys false (k : Int) = _ ∧ _
      unfold stp44a
      rw [Int.toNat_natCast]
      simp only [lt_true hkx, lt_true hky, inb_true hkx, inb_true hky, cond_true, wrap_succ (show k < 9223372036854775807 by omega)]
      rw [nums_drop hkx, nums_drop hky]
      have he : ∀ a b x y, ahead (a :: x) (b :: y) = (if a = b then ahead x y else decide (a < b)) := fun _ _ _ _ => rfl
      simp only [he]
      by_cases e : fI (xs.getD k []) 0 = fI (ys.getD k []) 0
      · left
        refine ⟨(), ?_, trivial, fun y hy => ?_⟩
        · rw [e]; simp
        · rw [if_pos e]; exact hy
      · right
        refine ⟨.x0 (decide (fI (xs.getD k []) 0 < fI (ys.getD k []) 0)) (k : Int), ?_, ?_⟩
        · have : (fI (xs.getD k []) 0 != fI (ys.getD k []) 0) = true := by simpa using e
          rw [this]; rfl
        · rw [if_neg e]
    · generalize hm : min xs.length ys.length = k
      refine ⟨.x1 (k : Int), ?_, (hend k (by omega) (by omega) (by omega)).symm⟩
      show stp44a xs ys false (k : Int) = _
      unfold stp44a
      rcases Nat.lt_or_ge k xs.length with h1 | h1
      · have d : decide ((k : Int) < (ys.length : Int)) = false := decide_eq_false (by omega)
        rw [lt_true h1, d]; rfl
      · have d : decide ((k : Int) < (xs.length : Int)) = false := decide_eq_false (by omega)
        rw [d]; rfl
  obtain ⟨y, h1, h2⟩ := run
  rw [List.drop_zero, List.drop_zero] at h2
  unfold g44 w44_0 t44 i44a_0 i44a_1 v44a_0_t4'
  rw [h1]
  cases y with
  | x0 t _ => exact ⟨rfl, h2⟩
  | x1 _ => exact ⟨rfl, h2⟩
/-! ### How long a row is together -/
def longL (ps : List (List AV)) : List Int → Int
  | [] => 0
  | k :: ks => (wd ps k.toNat : Int) + longL ps ks
theorem fitsL_long {ps : List (List AV)} {c : Nat} (hps : okPs ps) : ∀ {ks : List Int} {n h : Nat}, fitsL ps (c : Int) (n : Int) (h : Int) ks = true → longL ps ks = (n : Int) ∧ (ks.length : Int) ≤ n
  | [], n, h, hf => by
    have hf : ((n : Int) == 0 && (h : Int) == (c : Int)) = true := hf
    rw [Bool.and_eq_true, beq_iff_eq] at hf
    refine ⟨?_, ?_⟩
    · show 0 = _; omega
    · simp
  | k :: ks, n, h, hf => by
    obtain ⟨q, rfl, hq, h1, h2, h3, h4⟩ := fitsL_cons hps hf
    obtain ⟨i1, i2⟩ := fitsL_long hps h4
    obtain ⟨p1, p2, p3, p4, p5, p6, p7⟩ := pc_nat hps hq
    refine ⟨?_, ?_⟩
    · show (wd ps ((q : Int)).toNat : Int) + longL ps ks = _
      rw [Int.toNat_natCast, i1]
      omega
    · rw [List.length_cons]
      omega
/-- A sum over what is needed. -/
def sumTo (f : Nat → Int) : Nat → Int
  | 0 => 0
  | k + 1 => sumTo f k + f k
theorem sumTo_add (f g : Nat → Int) : ∀ k, sumTo (fun j => f j + g j) k = sumTo f k + sumTo g k
  | 0 => rfl
  | k + 1 => by
    show sumTo _ k + (f k + g k) = sumTo f k + f k + (sumTo g k + g k)
    rw [sumTo_add f g k]
    omega
theorem sumTo_zero : ∀ k, sumTo (fun _ => 0) k = 0
  | 0 => rfl
  | k + 1 => by
    show sumTo _ k + 0 = 0
    rw [sumTo_zero k]; rfl
theorem sumTo_one (v : Nat → Int) (q : Nat) : ∀ k, sumTo (fun j => if (q : Int) = (j : Int) then v j else 0) k = if q < k then v q else 0
  | 0 => rfl
  | k + 1 => by
    show sumTo _ k + (if (q : Int) = (k : Int) then v k else 0) = _
    rw [sumTo_one v q k]
    rcases Nat.lt_trichotomy q k with h | h | h
    · rw [if_pos h, if_neg (by omega), if_pos (by omega)]; omega
    · subst h
      rw [if_neg (by omega), if_pos rfl, if_pos (by omega)]; omega
    · rw [if_neg (by omega), if_neg (by omega), if_neg (by omega)]; rfl
theorem sumTo_congr {f g : Nat → Int} : ∀ {k : Nat}, (∀ j, j < k → f j = g j) → sumTo f k = sumTo g k
  | 0, _ => rfl
  | k + 1, h => by
    show sumTo f k + f k = sumTo g k + g k
    rw [sumTo_congr (fun j hj => h j (by omega)), h k (by omega)]
theorem need_sum {ps : List (List AV)} (v : Nat → Int) : ∀ {ks : List Int}, allK ps ks → sumTo (fun j => cntIn j ks * v j) ps.length = (ks.map fun k => v k.toNat).sum
  | [], _ => by
    have : (fun j : Nat => cntIn j [] * v j) = fun _ => (0 : Int) := by
      funext j
      show 0 * v j = 0
      omega
    rw [this, sumTo_zero]
    rfl
  | k :: ks, h => by
    obtain ⟨q, rfl, hq⟩ := isK_nat (h k (by simp))
    have hi := need_sum v (ks := ks) (fun k' hk' => h k' (by simp [hk']))
    have : (fun j : Nat => cntIn j ((q : Int) :: ks) * v j) = fun j : Nat => (if (q : Int) = (j : Int) then v j else 0) + cntIn j ks * v j := by
      funext j
      rw [cntIn_cons, Int.add_mul]
      congr 1
      split <;> omega
    rw [this, sumTo_add, hi, sumTo_one, if_pos hq]
    simp
theorem longL_sum (ps : List (List AV)) : ∀ ks : List Int, longL ps ks = (ks.map fun k => (wd ps k.toNat : Int)).sum
  | [] => rfl
  | k :: ks => by
    show _ + longL ps ks = _
    rw [longL_sum ps ks]
    simp
theorem ones_sum : ∀ ks : List Int, (ks.map fun _ => (1 : Int)).sum = (ks.length : Int)
  | [] => rfl
  | k :: ks => by
    simp only [List.map_cons, List.sum_cons, ones_sum ks, List.length_cons]
    omega
end Go.Proofs.Ytgifjphinkbcaaa

set_option maxRecDepth 100000
set_option linter.unusedVariables false
namespace Go.Proofs.Ytgifjphinkbcaaa
open Go Go.Ev
/-! ### Rows from behind, and in a mirror -/
theorem sumTo_swap (G : Nat → Nat → Int) (m : Nat) : ∀ n, sumTo (fun k => sumTo (fun j => G k j) m) n = sumTo (fun j => sumTo (fun k => G k j) n) m
  | 0 => (sumTo_zero m).symm
  | n + 1 => by
    show sumTo _ n + sumTo (fun j => G n j) m = sumTo (fun j => sumTo (fun k => G k j) n + G n j) m
    rw [sumTo_add, sumTo_swap G m n]
theorem sumTo_null {f : Nat → Int} {k : Nat} (h : ∀ j, j < k → f j = 0) : sumTo f k = 0 := (sumTo_congr h).trans (sumTo_zero k)
/-- All rows, by their first piece. -/
noncomputable def tw (ps : List (List AV)) (c : Nat) (n h : Nat) : Int :=
  if n = 0 then (if h = c then 1 else 0) else sumTo (fun k => if hk : lf ps k = h ∧ 1 ≤ wd ps k ∧ wd ps k ≤ n then tw ps c (n - wd ps k) (rt ps k) else 0) ps.length
termination_by n
decreasing_by omega
/-- All rows, by their last piece. -/
noncomputable def ts (ps : List (List AV)) (h : Nat) (n c : Nat) : Int :=
  if n = 0 then (if h = c then 1 else 0) else sumTo (fun j => if hj : rt ps j = c ∧ 1 ≤ wd ps j ∧ wd ps j ≤ n then ts ps h (n - wd ps j) (lf ps j) else 0) ps.length
termination_by n
decreasing_by omega
theorem tw_zero (ps : List (List AV)) (c h : Nat) : tw ps c 0 h = if h = c then 1 else 0 := by
  rw [tw, if_pos rfl]
theorem ts_zero (ps : List (List AV)) (c h : Nat) : ts ps h 0 c = if h = c then 1 else 0 := by
  rw [ts, if_pos rfl]
theorem tw_pos (ps : List (List AV)) (c h : Nat) {n : Nat} (hn : 0 < n) : tw ps c n h = sumTo (fun k => if lf ps k = h ∧ 1 ≤ wd ps k ∧ wd ps k ≤ n then tw ps c (n - wd ps k) (rt ps k) else 0) ps.length := by
  rw [tw, if_neg (by omega)]
  refine sumTo_congr fun j _ => ?_
  split <;> rfl
theorem ts_pos (ps : List (List AV)) (c h : Nat) {n : Nat} (hn : 0 < n) : ts ps h n c = sumTo (fun j => if rt ps j = c ∧ 1 ≤ wd ps j ∧ wd ps j ≤ n then ts ps h (n - wd ps j) (lf ps j) else 0) ps.length := by
  rw [ts, if_neg (by omega)]
  refine sumTo_congr fun j _ => ?_
  split <;> rfl
theorem sumTo_if (P : Prop) [Decidable P] (f : Nat → Int) (k : Nat) : (if P then sumTo f k else 0) = sumTo (fun j => if P then f j else 0) k := by
  split
  · rfl
  · exact (sumTo_zero k).symm
theorem tw_ts (ps : List (List AV)) : ∀ (n c h : Nat), tw ps c n h = ts ps h n c := by
  intro n
  induction n using Nat.strongRecOn with
  | ind n ih =>
  intro c h
  rcases Nat.eq_zero_or_pos n with rfl | hn
  · rw [tw_zero, ts_zero]
  rw [tw_pos ps c h hn, ts_pos ps c h hn]
  have e1 : ∀ k, (if lf ps k = h ∧ 1 ≤ wd ps k ∧ wd ps k ≤ n then tw ps c (n - wd ps k) (rt ps k) else 0)
      = (if lf ps k = h ∧ rt ps k = c ∧ wd ps k = n then 1 else 0) + sumTo (fun j => if lf ps k = h ∧ rt ps j = c ∧ 1 ≤ wd ps k ∧ 1 ≤ wd ps j ∧ wd ps k + wd ps j ≤ n then ts ps (rt ps k) (n - wd ps k - wd ps j) (lf ps j) else 0) ps.length := by
    intro k
    by_cases hk : lf ps k = h ∧ 1 ≤ wd ps k ∧ wd ps k ≤ n
    · rw [if_pos hk, ih (n - wd ps k) (by omega)]
      rcases Nat.eq_zero_or_pos (n - wd ps k) with hz | hp
      · rw [hz, ts_zero]
        have : sumTo (fun j => if lf ps k = h ∧ rt ps j = c ∧ 1 ≤ wd ps k ∧ 1 ≤ wd ps j ∧ wd ps k + wd ps j ≤ n then ts ps (rt ps k) (n - wd ps k - wd ps j) (lf ps j) else 0) ps.length = 0 := by
          exact sumTo_null fun j _ => if_neg (by omega)
        rw [hz] at this
        rw [this, Int.add_zero]
        by_cases hc : rt ps k = c
        · rw [if_pos hc, if_pos ⟨hk.1, hc, by omega⟩]
        · rw [if_neg hc, if_neg (fun h' => hc h'.2.1)]
      · rw [ts_pos ps c _ hp, if_neg (by omega), Int.zero_add]
        refine sumTo_congr fun j _ => ?_
        by_cases hj : rt ps j = c ∧ 1 ≤ wd ps j ∧ wd ps j ≤ n - wd ps k
        · rw [if_pos hj, if_pos ⟨hk.1, hj.1, hk.2.1, hj.2.1, by omega⟩]
        · rw [if_neg hj, if_neg (fun h' => hj ⟨h'.2.1, h'.2.2.2.1, by omega⟩)]
    · rw [if_neg hk, if_neg (fun h' => hk ⟨h'.1, by omega, by omega⟩)]
      rw [show sumTo (fun j => if lf ps k = h ∧ rt ps j = c ∧ 1 ≤ wd ps k ∧ 1 ≤ wd ps j ∧ wd ps k + wd ps j ≤ n then ts ps (rt ps k) (n - wd ps k - wd ps j) (lf ps j) else 0) ps.length = 0 from by
        exact sumTo_null fun j _ => if_neg (fun h' => hk ⟨h'.1, h'.2.2.1, by omega⟩)]
      rfl
  have e2 : ∀ j, (if rt ps j = c ∧ 1 ≤ wd ps j ∧ wd ps j ≤ n then ts ps h (n - wd ps j) (lf ps j) else 0)
      = (if lf ps j = h ∧ rt ps j = c ∧ wd ps j = n then 1 else 0) + sumTo (fun k => if lf ps k = h ∧ rt ps j = c ∧ 1 ≤ wd ps k ∧ 1 ≤ wd ps j ∧ wd ps k + wd ps j ≤ n then ts ps (rt ps k) (n - wd ps k - wd ps j) (lf ps j) else 0) ps.length := by
    intro j
    by_cases hj : rt ps j = c ∧ 1 ≤ wd ps j ∧ wd ps j ≤ n
    · rw [if_pos hj, ← ih (n - wd ps j) (by omega)]
      rcases Nat.eq_zero_or_pos (n - wd ps j) with hz | hp
      · rw [hz, tw_zero]
        have : sumTo (fun k => if lf ps k = h ∧ rt ps j = c ∧ 1 ≤ wd ps k ∧ 1 ≤ wd ps j ∧ wd ps k + wd ps j ≤ n then ts ps (rt ps k) (n - wd ps k - wd ps j) (lf ps j) else 0) ps.length = 0 := by
          exact sumTo_null fun k _ => if_neg (by omega)
        rw [this, Int.add_zero]
        by_cases hc : h = lf ps j
        · rw [if_pos hc, if_pos ⟨hc.symm, hj.1, by omega⟩]
        · rw [if_neg hc, if_neg (fun h' => hc h'.1.symm)]
      · rw [tw_pos ps _ _ hp, if_neg (by omega), Int.zero_add]
        refine sumTo_congr fun k _ => ?_
        by_cases hk : lf ps k = h ∧ 1 ≤ wd ps k ∧ wd ps k ≤ n - wd ps j
        · rw [if_pos hk, if_pos ⟨hk.1, hj.1, hk.2.1, hj.2.1, by omega⟩, ih (n - wd ps j - wd ps k) (by omega), Nat.sub_right_comm]
        · rw [if_neg hk, if_neg (fun h' => hk ⟨h'.1, h'.2.2.1, by omega⟩)]
    · rw [if_neg hj, if_neg (fun h' => hj ⟨h'.2.1, by omega, by omega⟩)]
      rw [show sumTo (fun k => if lf ps k = h ∧ rt ps j = c ∧ 1 ≤ wd ps k ∧ 1 ≤ wd ps j ∧ wd ps k + wd ps j ≤ n then ts ps (rt ps k) (n - wd ps k - wd ps j) (lf ps j) else 0) ps.length = 0 from by
        exact sumTo_null fun k _ => if_neg (fun h' => hj ⟨h'.2.1, h'.2.2.2.1, by omega⟩)]
      rfl
  rw [sumTo_congr (fun k _ => e1 k), sumTo_congr (fun j _ => e2 j), sumTo_add, sumTo_add, sumTo_swap]
/-! The mirror. -/
def mi (ps : List (List AV)) (k : Nat) : Nat := (fI (ps.getD k []) 4).toNat
def Mir (ps : List (List AV)) : Prop := ∀ k, k < ps.length → mirs ps k
theorem mi_ok {ps : List (List AV)} (hps : okPs ps) (hm : Mir ps) {k : Nat} (hk : k < ps.length) : fI (ps.getD k []) 4 = (mi ps k : Int) ∧ mi ps k < ps.length ∧ mi ps (mi ps k) = k ∧ wd ps (mi ps k) = wd ps k ∧ lf ps (mi ps k) = rt ps k ∧ rt ps (mi ps k) = lf ps k := by
  obtain ⟨q, hq, h1, h2, h3, h4, h5⟩ := hm k hk
  have e : mi ps k = q := by unfold mi; omega
  rw [e]
  refine ⟨h1, hq, by unfold mi; omega, ?_, ?_, ?_⟩
  · unfold wd pL; rw [h3]
  · unfold lf rt pA pB; rw [h4]
  · unfold lf rt pA pB; rw [h5]
theorem sumTo_mi {ps : List (List AV)} (hps : okPs ps) (hm : Mir ps) (f : Nat → Int) : sumTo (fun j => f (mi ps j)) ps.length = sumTo f ps.length := by
  have h1 : sumTo (fun j => f (mi ps j)) ps.length = sumTo (fun j => sumTo (fun i => if (mi ps j : Int) = (i : Int) then f i else 0) ps.length) ps.length := by
    refine sumTo_congr fun j hj => ?_
    rw [sumTo_one, if_pos (mi_ok hps hm hj).2.1]
  rw [h1, sumTo_swap]
  refine sumTo_congr fun i hi => ?_
  have : sumTo (fun j => if (mi ps j : Int) = (i : Int) then f i else 0) ps.length = sumTo (fun j => if (mi ps i : Int) = (j : Int) then f i else 0) ps.length := by
    refine sumTo_congr fun j hj => ?_
    obtain ⟨_, a1, a2, _⟩ := mi_ok hps hm hj
    obtain ⟨_, b1, b2, _⟩ := mi_ok hps hm hi
    by_cases e : mi ps j = i
    · rw [if_pos (by omega), if_pos (by rw [← e, a2])]
    · rw [if_neg (by omega), if_neg (fun h' => e (by
        have : mi ps i = j := by omega
        rw [← this, b2]))]
  rw [this]
  have := sumTo_one (fun _ => f i) (mi ps i) ps.length
  rw [this, if_pos (mi_ok hps hm hi).2.1]
theorem ts_mir {ps : List (List AV)} (hps : okPs ps) (hm : Mir ps) : ∀ (n c h : Nat), ts ps h n c = tw ps h n c := by
  intro n
  induction n using Nat.strongRecOn with
  | ind n ih =>
  intro c h
  rcases Nat.eq_zero_or_pos n with rfl | hn
  · rw [tw_zero, ts_zero]
    by_cases e : h = c
    · rw [if_pos e, if_pos e.symm]
    · rw [if_neg e, if_neg (fun e' => e e'.symm)]
  · rw [tw_pos ps h c hn, ts_pos ps c h hn, ← sumTo_mi hps hm]
    refine sumTo_congr fun k hk => ?_
    obtain ⟨_, a1, a2, a3, a4, a5⟩ := mi_ok hps hm hk
    rw [a3, a4, a5]
    split
    · exact ih (n - wd ps k) (by omega) _ _
    · rfl
/-- As many rows in the mirror. -/
theorem tw_mir {ps : List (List AV)} (hps : okPs ps) (hm : Mir ps) (n c h : Nat) : tw ps c n h = tw ps h n c := (tw_ts ps n c h).trans (ts_mir hps hm n c h)
theorem tw_nonneg (ps : List (List AV)) (c : Nat) : ∀ (n h : Nat), 0 ≤ tw ps c n h := by
  intro n
  induction n using Nat.strongRecOn with
  | ind n ih =>
  intro h
  rcases Nat.eq_zero_or_pos n with rfl | hn
  · rw [tw_zero]; split <;> omega
  · rw [tw_pos ps c h hn]
    have : ∀ k, 0 ≤ sumTo (fun k => if lf ps k = h ∧ 1 ≤ wd ps k ∧ wd ps k ≤ n then tw ps c (n - wd ps k) (rt ps k) else 0) k := by
      intro k
      induction k with
      | zero => exact Int.le_refl _
      | succ k ihk =>
        show 0 ≤ sumTo _ k + (if _ then _ else _)
        split
        · have := ih (n - wd ps k) (by omega) (rt ps k)
          omega
        · omega
    exact this _
/-- The counts are those of all rows, up to the limit. -/
theorem cnt_tw {ps : List (List AV)} {c : Nat} (hps : okPs ps) : ∀ (n h : Nat), cnt ps c n h = bmin (tw ps c n h) cap := by
  intro n
  induction n using Nat.strongRecOn with
  | ind n ih =>
  intro h
  rcases Nat.eq_zero_or_pos n with rfl | hn
  · rw [cnt_zero, tw_zero, bmin_le]
    unfold cap
    split <;> simp
  · rw [← sm_len hps hn, tw_pos ps c h hn]
    have : ∀ k, k ≤ ps.length → sm ps c n h k = bmin (sumTo (fun k => if lf ps k = h ∧ 1 ≤ wd ps k ∧ wd ps k ≤ n then tw ps c (n - wd ps k) (rt ps k) else 0) k) cap ∧ 0 ≤ sumTo (fun k => if lf ps k = h ∧ 1 ≤ wd ps k ∧ wd ps k ≤ n then tw ps c (n - wd ps k) (rt ps k) else 0) k := by
      intro k
      induction k with
      | zero =>
        intro _
        refine ⟨?_, Int.le_refl _⟩
        show 0 = bmin 0 cap
        rw [bmin_le]; unfold cap; simp
      | succ k ihk =>
        intro hk
        obtain ⟨i1, i2⟩ := ihk (by omega)
        obtain ⟨p1, p2, p3, p4, p5, p6, p7⟩ := pc_nat hps (show k < ps.length by omega)
        have ht : sm ps c n h (k + 1) = acc (fun m => cnt ps c m) n h (sm ps c n h k) (ps.getD k []) := take_acc (by omega)
        have hx := tw_nonneg ps c (n - wd ps k) (rt ps k)
        show sm ps c n h (k + 1) = bmin (sumTo _ k + (if lf ps k = h ∧ 1 ≤ wd ps k ∧ wd ps k ≤ n then tw ps c (n - wd ps k) (rt ps k) else 0)) cap ∧ 0 ≤ sumTo _ k + (if lf ps k = h ∧ 1 ≤ wd ps k ∧ wd ps k ≤ n then tw ps c (n - wd ps k) (rt ps k) else 0)
        rw [ht, i1]
        generalize sumTo (fun k => if lf ps k = h ∧ 1 ≤ wd ps k ∧ wd ps k ≤ n then tw ps c (n - wd ps k) (rt ps k) else 0) k = s at i2
        unfold acc
        have e : (pA (ps.getD k []) = h ∧ pL (ps.getD k []) ≤ n) = (lf ps k = h ∧ wd ps k ≤ n) := rfl
        simp only [e]
        by_cases hc : lf ps k = h ∧ wd ps k ≤ n
        · rw [if_pos hc, if_pos ⟨hc.1, p4, hc.2⟩]
          have hi := ih (n - wd ps k) (by omega) (rt ps k)
          change bmin (bmin s cap + cnt ps c (n - wd ps k) (rt ps k)) cap = _ ∧ _
          rw [hi]
          generalize tw ps c (n - wd ps k) (rt ps k) = t at hx
          have hcap : (0 : Int) ≤ cap := by unfold cap; omega
          refine ⟨?_, by omega⟩
          rw [bmin_le, bmin_le, bmin_le, bmin_le]
          generalize cap = m at hcap
          repeat' split
          all_goals omega
        · rw [if_neg hc, if_neg (fun h' => hc ⟨h'.1, h'.2.2⟩)]
          exact ⟨by rw [Int.add_zero], by omega⟩
    exact (this ps.length (Nat.le_refl _)).1
theorem cnt_mir {ps : List (List AV)} (hps : okPs ps) (hm : Mir ps) (n c h : Nat) : cnt ps c n h = cnt ps h n c := by
  rw [cnt_tw hps, cnt_tw hps, tw_mir hps hm]
/-! Rows in the mirror. -/
theorem fitsL_snoc {ps : List (List AV)} (hps : okPs ps) {c q : Nat} (hq : q < ps.length) : ∀ {ks : List Int} {n h : Nat}, fitsL ps (c : Int) (n : Int) (h : Int) (ks ++ [(q : Int)]) = true ↔ (rt ps q = c ∧ wd ps q ≤ n ∧ fitsL ps (lf ps q : Int) ((n - wd ps q : Nat) : Int) (h : Int) ks = true)
  | [], n, h => by
    obtain ⟨p1, p2, p3, p4, p5, p6, p7⟩ := pc_nat hps hq
    have e0 : ∀ (c n h : Nat), fitsL ps (c : Int) (n : Int) (h : Int) [] = true ↔ n = 0 ∧ h = c := by
      intro c n h
      show (((n : Int) == 0 && (h : Int) == (c : Int)) = true) ↔ _
      rw [Bool.and_eq_true, beq_iff_eq, beq_iff_eq]
      omega
    constructor
    · intro h1
      obtain ⟨q', e, hq', h2, h3, h4, h5⟩ := fitsL_cons hps h1
      have : q' = q := by omega
      subst this
      rw [e0] at h5
      exact ⟨h5.2, h3, (e0 _ _ _).2 ⟨h5.1, h2.symm⟩⟩
    · rintro ⟨h1, h2, h3⟩
      rw [e0] at h3
      exact fitsL_mk hps hq h3.2.symm h2 ((e0 _ _ _).2 ⟨h3.1, h1⟩)
  | k :: ks, n, h => by
    obtain ⟨p1, p2, p3, p4, p5, p6, p7⟩ := pc_nat hps hq
    constructor
    · intro h1
      obtain ⟨r, rfl, hr, h2, h3, h4, h5⟩ := fitsL_cons hps (show fitsL ps (c : Int) (n : Int) (h : Int) (k :: (ks ++ [(q : Int)])) = true from h1)
      obtain ⟨i1, i2, i3⟩ := (fitsL_snoc hps hq).1 h5
      refine ⟨i1, by omega, fitsL_mk hps hr h2 (by omega) ?_⟩
      rw [Nat.sub_right_comm]
      exact i3
    · rintro ⟨h1, h2, h3⟩
      obtain ⟨r, rfl, hr, h4, h5, h6, h7⟩ := fitsL_cons hps h3
      refine fitsL_mk hps hr h4 (by omega) ((fitsL_snoc hps hq).2 ⟨h1, by omega, ?_⟩)
      rw [Nat.sub_right_comm]
      exact h7
/-- A row as it is seen in a mirror. -/
def imgL (ps : List (List AV)) : List Int → List Int
  | [] => []
  | k :: ks => imgL ps ks ++ [(mi ps k.toNat : Int)]
theorem fitsL_img {ps : List (List AV)} (hps : okPs ps) (hm : Mir ps) {c : Nat} : ∀ {ks : List Int} {n h : Nat}, allK ps ks → fitsL ps (c : Int) (n : Int) (h : Int) ks = fitsL ps (h : Int) (n : Int) (c : Int) (imgL ps ks)
  | [], n, h, _ => by
    show ((n : Int) == 0 && (h : Int) == (c : Int)) = ((n : Int) == 0 && (c : Int) == (h : Int))
    congr 1
    rw [Bool.eq_iff_iff, beq_iff_eq, beq_iff_eq]
    exact ⟨fun e => e.symm, fun e => e.symm⟩
  | k :: ks, n, h, ha => by
    obtain ⟨q, rfl, hq⟩ := isK_nat (ha k (by simp))
    have ha' : allK ps ks := fun k' hk' => ha k' (by simp [hk'])
    obtain ⟨_, a1, a2, a3, a4, a5⟩ := mi_ok hps hm hq
    have e : imgL ps ((q : Int) :: ks) = imgL ps ks ++ [(mi ps q : Int)] := by
      show imgL ps ks ++ [(mi ps ((q : Int)).toNat : Int)] = _
      rw [Int.toNat_natCast]
    rw [Bool.eq_iff_iff, e, fitsL_snoc hps a1, a3, a4, a5]
    constructor
    · intro h1
      obtain ⟨q', e', hq', h2, h3, h4, h5⟩ := fitsL_cons hps h1
      have : q' = q := by omega
      subst this
      rw [fitsL_img hps hm ha'] at h5
      exact ⟨h2, h3, h5⟩
    · rintro ⟨h1, h2, h3⟩
      rw [← fitsL_img hps hm ha'] at h3
      exact fitsL_mk hps hq h1 h2 h3
end Go.Proofs.Ytgifjphinkbcaaa

set_option maxRecDepth 100000
set_option linter.unusedVariables false
namespace Go.Proofs.Ytgifjphinkbcaaa
open Go Go.Ev
/-! ### The closure and its memo, one within the other -/
theorem w69_rows [LF] (ra rb rc : Int) (ps : PS) (ra' rb' rc' : Int) (ps' : PS) (w p : Int) (m : Mp) (h : g69 ra rb rc ps ra' rb' rc' ps' w p m = true) :
    w69_1 ra rb rc ps ra' rb' rc' ps' w p m = ra' ∧ w69_2 ra rb rc ps ra' rb' rc' ps' w p m = rb' ∧ w69_3 ra rb rc ps ra' rb' rc' ps' w p m = rc' ∧ w69_4 ra rb rc ps ra' rb' rc' ps' w p m = ps' := by
  unfold g69 at h
  unfold w69_1 w69_2 w69_3 w69_4
  unfold t69 at h ⊢
  cases h1 : !mhas (AV.agg [AV.i IntKind.i64 w, AV.i IntKind.i64 p]) m with
  | true =>
    rw [h1] at h
    cases h2 : (LF.G ra rb rc ps ra' rb' rc' ps' w p m && true) with
    | true => exact ⟨rfl, rfl, rfl, rfl⟩
    | false => rw [h2] at h; cases h
  | false => exact ⟨rfl, rfl, rfl, rfl⟩
theorem w68_rows [LG] (ra rb rc : Int) (ps : PS) (ra' rb' rc' : Int) (ps' : PS) (w p : Int) (m : Mp) (h : g68 ra rb rc ps ra' rb' rc' ps' w p m = true) :
    w68_1 ra rb rc ps ra' rb' rc' ps' w p m = ra' ∧ w68_2 ra rb rc ps ra' rb' rc' ps' w p m = rb' ∧ w68_3 ra rb rc ps ra' rb' rc' ps' w p m = rc' ∧ w68_4 ra rb rc ps ra' rb' rc' ps' w p m = ps' := by
  unfold g68 at h
  unfold w68_1 w68_2 w68_3 w68_4
  unfold t68 at h ⊢
  cases h1 : w == 0 with
  | true => cases h2 : p == rb <;> exact ⟨rfl, rfl, rfl, rfl⟩
  | false =>
    rw [h1] at h
    cases h2 : i68a_0 w p 0 ps (↑ps.length : Int) ra' rb' rc' ps' 0 0 m with
    | true => exact ⟨rfl, rfl, rfl, rfl⟩
    | false => rw [h2] at h; cases h
@[reducible] noncomputable def lgOf (K : LF) : LG where
  F := fun ra rb rc ps ra' rb' rc' ps' w p m => (w69_0 ra rb rc ps ra' rb' rc' ps' w p m, w69_5 ra rb rc ps ra' rb' rc' ps' w p m)
  G := fun ra rb rc ps ra' rb' rc' ps' w p m => g69 ra rb rc ps ra' rb' rc' ps' w p m
  ok := fun ra rb rc ps ra' rb' rc' ps' w p m h => by
    have := con69 ra rb rc ps ra' rb' rc' ps' w p m h
    obtain ⟨e1, e2, e3, e4⟩ := w69_rows ra rb rc ps ra' rb' rc' ps' w p m h
    rw [e1, e2, e3, e4] at this
    exact this
@[reducible] noncomputable def lfOf (K : LG) : LF where
  F := fun ra rb rc ps ra' rb' rc' ps' w p m => (w68_0 ra rb rc ps ra' rb' rc' ps' w p m, w68_5 ra rb rc ps ra' rb' rc' ps' w p m)
  G := fun ra rb rc ps ra' rb' rc' ps' w p m => g68 ra rb rc ps ra' rb' rc' ps' w p m
  ok := fun ra rb rc ps ra' rb' rc' ps' w p m h => by
    have := con68 ra rb rc ps ra' rb' rc' ps' w p m h
    obtain ⟨e1, e2, e3, e4⟩ := w68_rows ra rb rc ps ra' rb' rc' ps' w p m h
    rw [e1, e2, e3, e4] at this
    exact this
@[reducible] noncomputable def lfN : Nat → LF
  | 0 => { F := fun _ _ _ _ _ _ _ _ _ _ m => (0, m), G := fun _ _ _ _ _ _ _ _ _ _ _ => false, ok := fun _ _ _ _ _ _ _ _ _ _ _ h => by cases h }
  | n + 1 => lfOf (lgOf (lfN n))
/-- Keys. -/
def gk (w p : Int) : AV := .agg [.i .i64 w, .i .i64 p]
theorem same_gk (w p : Int) (x : AV) : sameV (gk w p) x = true ↔ x = gk w p := by
  constructor
  · intro h
    cases x with
    | agg l =>
      have h : sameL [.i .i64 w, .i .i64 p] l = true := h
      match l, h with
      | [a, b], h =>
        simp only [sameL, Bool.and_eq_true] at h
        obtain ⟨h1, h2, _⟩ := h
        have one : ∀ (n : Int) (y : AV), sameV (.i .i64 n) y = true → y = .i .i64 n := by
          intro n y hy
          cases y with
          | i k z =>
            have hy : cond (decide (IntKind.i64 = k)) (decide (n = z)) false = true := hy
            cases hk : decide (IntKind.i64 = k) with
            | false => rw [hk] at hy; cases hy
            | true =>
              rw [hk] at hy
              have e1 := of_decide_eq_true hk
              have e2 := of_decide_eq_true hy
              rw [← e1, ← e2]
          | _ => cases hy
        rw [one w a h1, one p b h2]
        rfl
      | [], h => cases h
      | [a], h =>
        simp only [sameL, Bool.and_false] at h
        cases h
      | a :: b :: c :: r, h =>
        simp only [sameL, Bool.and_false] at h
        cases h
    | _ => cases h
  · rintro rfl
    show sameL [.i .i64 w, .i .i64 p] [.i .i64 w, .i .i64 p] = true
    simp [sameL, sameV]
theorem mget_mset_g (w p w' p' : Int) (v : AV) : ∀ m : Mp, mget (gk w p) (mset (gk w' p') v m) = if w = w' ∧ p = p' then some v else mget (gk w p) m := by
  have key : ∀ x : AV, sameV (gk w p) (gk w' p') = decide (w = w' ∧ p = p') := fun _ => by
    rw [Bool.eq_iff_iff, same_gk, decide_eq_true_eq]
    constructor
    · intro h
      simp only [gk, AV.agg.injEq, List.cons.injEq, AV.i.injEq, true_and, and_true] at h
      exact ⟨h.1.symm, h.2.symm⟩
    · rintro ⟨rfl, rfl⟩; rfl
  have key := key .u
  intro m
  induction m with
  | nil =>
    show cond (sameV (gk w p) (gk w' p')) (some v) none = _
    rw [key]
    by_cases h : w = w' ∧ p = p'
    · rw [decide_eq_true h, if_pos h]; rfl
    · rw [decide_eq_false h, if_neg h]; rfl
  | cons e r ih =>
    obtain ⟨k, x⟩ := e
    unfold mset
    cases h1 : sameV (gk w' p') k with
    | true =>
      have hk := (same_gk w' p' k).1 h1
      subst hk
      show cond (sameV (gk w p) (gk w' p')) (some v) (mget (gk w p) r) = if _ then _ else cond (sameV (gk w p) (gk w' p')) (some x) (mget (gk w p) r)
      rw [key]
      by_cases h : w = w' ∧ p = p'
      · rw [decide_eq_true h, if_pos h]; rfl
      · rw [decide_eq_false h, if_neg h]; rfl
    | false =>
      show cond (sameV (gk w p) k) (some x) (mget (gk w p) (mset (gk w' p') v r)) = if _ then _ else cond (sameV (gk w p) k) (some x) (mget (gk w p) r)
      rw [ih]
      cases h2 : sameV (gk w p) k with
      | false => rfl
      | true =>
        have hk := (same_gk w p k).1 h2
        subst hk
        have : ¬ (w = w' ∧ p = p') := by
          rintro ⟨rfl, rfl⟩
          rw [(same_gk w p (gk w p)).2 rfl] at h1
          cases h1
        exact (if_neg this).symm
/-- What the memo knows is right. -/
def MOK (ps : PS) (h : Nat) (m : Mp) : Prop := ∀ (n c : Nat) (v : AV), mget (gk (n : Int) (c : Int)) m = some v → v = .i .i64 (ts ps h n c)
theorem MOK_set {ps : PS} {h n c : Nat} {m : Mp} (hm : MOK ps h m) : MOK ps h (mset (gk (n : Int) (c : Int)) (.i .i64 (ts ps h n c)) m) := by
  intro n' c' v hv
  rw [mget_mset_g] at hv
  split at hv
  · rename_i e
    have e1 : n' = n := by omega
    have e2 : c' = c := by omega
    cases hv
    rw [e1, e2]
  · exact hm n' c' v hv
theorem sumTo_nn {f : Nat → Int} (h : ∀ j, 0 ≤ f j) : ∀ k, 0 ≤ sumTo f k
  | 0 => Int.le_refl _
  | k + 1 => by
    have h1 := sumTo_nn h k
    have h2 := h k
    show 0 ≤ sumTo f k + f k
    omega
theorem sumTo_mono {f : Nat → Int} (h : ∀ j, 0 ≤ f j) {q : Nat} : ∀ {r : Nat}, q ≤ r → sumTo f q ≤ sumTo f r
  | 0, hq => by
    obtain rfl : q = 0 := by omega
    exact Int.le_refl _
  | r + 1, hq => by
    rcases Nat.eq_or_lt_of_le hq with e | e
    · rw [e]; exact Int.le_refl _
    · have h1 := sumTo_mono h (q := q) (r := r) (by omega)
      have h2 := h r
      show _ ≤ sumTo f r + f r
      omega
theorem sumTo_at {f : Nat → Int} (h : ∀ j, 0 ≤ f j) {i k : Nat} (hi : i < k) : f i ≤ sumTo f k := by
  have h1 := sumTo_mono h (q := i + 1) (r := k) hi
  have h2 := sumTo_nn h i
  have h3 : sumTo f (i + 1) = sumTo f i + f i := rfl
  omega
theorem ts_nonneg (ps : PS) (h n c : Nat) : 0 ≤ ts ps h n c := by
  rw [← tw_ts]
  exact tw_nonneg ps c n h
theorem ts_sub {ps : PS} (hps : okPs ps) {h n c k : Nat} (hn : 0 < n) (hk : k < ps.length) (h1 : rt ps k = c) (h2 : wd ps k ≤ n) : ts ps h (n - wd ps k) (lf ps k) ≤ ts ps h n c := by
  obtain ⟨p1, p2, p3, p4, p5, p6, p7⟩ := pc_nat hps hk
  rw [ts_pos ps c h hn]
  have := sumTo_at (f := fun j => if rt ps j = c ∧ 1 ≤ wd ps j ∧ wd ps j ≤ n then ts ps h (n - wd ps j) (lf ps j) else 0) (fun j => by
    split
    · exact ts_nonneg _ _ _ _
    · exact Int.le_refl _) hk
  rw [if_pos ⟨h1, p4, h2⟩] at this
  exact this
/-- A closure that is right up to a width. -/
def FOK (K : LF) (ps : PS) (h : Nat) (ra rc : Int) (N : Nat) : Prop := ∀ (n c : Nat) (m : Mp), n < N → c < 10 → ts ps h n c ≤ 1000000000000000 → MOK ps h m → K.G ra (h : Int) rc ps ra (h : Int) rc ps (n : Int) (c : Int) m = true ∧ (K.F ra (h : Int) rc ps ra (h : Int) rc ps (n : Int) (c : Int) m).1 = ts ps h n c ∧ MOK ps h (K.F ra (h : Int) rc ps ra (h : Int) rc ps (n : Int) (c : Int) m).2
def GOK (K : LG) (ps : PS) (h : Nat) (ra rc : Int) (N : Nat) : Prop := ∀ (n c : Nat) (m : Mp), n < N → c < 10 → ts ps h n c ≤ 1000000000000000 → MOK ps h m → K.G ra (h : Int) rc ps ra (h : Int) rc ps (n : Int) (c : Int) m = true ∧ (K.F ra (h : Int) rc ps ra (h : Int) rc ps (n : Int) (c : Int) m).1 = ts ps h n c ∧ MOK ps h (K.F ra (h : Int) rc ps ra (h : Int) rc ps (n : Int) (c : Int) m).2
theorem get_ok {K : LF} {ps : PS} {h : Nat} {ra rc : Int} {N : Nat} (hK : FOK K ps h ra rc N) : GOK (lgOf K) ps h ra rc N := by
  intro n c m hn hc hb hm
  show g69 ra (h : Int) rc ps ra (h : Int) rc ps (n : Int) (c : Int) m = true ∧ w69_0 ra (h : Int) rc ps ra (h : Int) rc ps (n : Int) (c : Int) m = _ ∧ MOK ps h (w69_5 ra (h : Int) rc ps ra (h : Int) rc ps (n : Int) (c : Int) m)
  unfold g69 w69_0 w69_5 t69
  have hhas : mhas (AV.agg [AV.i IntKind.i64 (n : Int), AV.i IntKind.i64 (c : Int)]) m = (mget (gk (n : Int) (c : Int)) m).isSome := rfl
  have hg : mget (AV.agg [AV.i IntKind.i64 (n : Int), AV.i IntKind.i64 (c : Int)]) m = mget (gk (n : Int) (c : Int)) m := rfl
  rw [hhas, hg]
  cases he : mget (gk (n : Int) (c : Int)) m with
  | none =>
    obtain ⟨k1, k2, k3⟩ := hK n c m hn hc hb hm
    have hG : LF.G ra (h : Int) rc ps ra (h : Int) rc ps (n : Int) (c : Int) m = true := k1
    have hF : (LF.F ra (h : Int) rc ps ra (h : Int) rc ps (n : Int) (c : Int) m).1 = ts ps h n c := k2
    rw [hG, hF]
    exact ⟨rfl, rfl, MOK_set k3⟩
  | some v =>
    have := hm n c v he
    subst this
    exact ⟨rfl, rfl, hm⟩
theorem list_ok {K : LG} {ps : PS} {h : Nat} {ra rc : Int} {N : Nat} (hps : okPs ps) (hN : N ≤ 3000) (hK : GOK K ps h ra rc N) : FOK (lfOf K) ps h ra rc (N + 1) := by
  intro n c m hn hc hb hm
  have hl := hps.1
  show g68 ra (h : Int) rc ps ra (h : Int) rc ps (n : Int) (c : Int) m = true ∧ w68_0 ra (h : Int) rc ps ra (h : Int) rc ps (n : Int) (c : Int) m = _ ∧ MOK ps h (w68_5 ra (h : Int) rc ps ra (h : Int) rc ps (n : Int) (c : Int) m)
  rcases Nat.eq_zero_or_pos n with rfl | hpos
  · have e0 : (((0 : Nat) : Int) == 0) = true := by decide
    unfold g68 w68_0 w68_5 t68
    rw [e0, ts_zero]
    by_cases hc0 : h = c
    · have e1 : ((c : Int) == (h : Int)) = true := by rw [beq_iff_eq]; omega
      rw [e1, if_pos hc0]
      exact ⟨rfl, rfl, hm⟩
    · have e1 : ((c : Int) == (h : Int)) = false := by rw [beq_eq_false_iff_ne]; omega
      rw [e1, if_neg hc0]
      exact ⟨rfl, rfl, hm⟩
  · have e0 : ((n : Int) == 0) = false := by rw [beq_eq_false_iff_ne]; omega
    have hts := ts_pos ps c h hpos
    have hnn : ∀ q, 0 ≤ sumTo (fun j => if rt ps j = c ∧ 1 ≤ wd ps j ∧ wd ps j ≤ n then ts ps h (n - wd ps j) (lf ps j) else 0) q ∧ (q ≤ ps.length → sumTo (fun j => if rt ps j = c ∧ 1 ≤ wd ps j ∧ wd ps j ≤ n then ts ps h (n - wd ps j) (lf ps j) else 0) q ≤ ts ps h n c) := by
      have hj : ∀ j, 0 ≤ (fun j => if rt ps j = c ∧ 1 ≤ wd ps j ∧ wd ps j ≤ n then ts ps h (n - wd ps j) (lf ps j) else 0) j := fun j => by
        dsimp only
        split
        · exact ts_nonneg _ _ _ _
        · exact Int.le_refl _
      intro q
      refine ⟨sumTo_nn hj q, fun hq => ?_⟩
      rw [hts]
      exact sumTo_mono hj hq
    have run : ∃ y, r68a (n : Int) (c : Int) 0 ps (ps.length : Int) ra (h : Int) rc ps 0 0 m = some y ∧ ∃ a m', y = .x0 (ts ps h n c) a m' ∧ MOK ps h m' := by
      unfold r68a
      refine run_for (S := Mp) ps.length (fun k s => (⟨sumTo (fun j => if rt ps j = c ∧ 1 ≤ wd ps j ∧ wd ps j ≤ n then ts ps h (n - wd ps j) (lf ps j) else 0) k, (k : Int), s⟩ : S68a)) (fun _ s => MOK ps h s) (fun _ _ (y : T68a) => ∃ a m', y = .x0 (ts ps h n c) a m' ∧ MOK ps h m') (fun k s hk hs => ?_) (fun s hs => ?_) 0 m (Nat.zero_le _) hm
      · left
        obtain ⟨p1, p2, p3, p4, p5, p6, p7⟩ := pc_nat hps hk
        have b0 := hnn k
        have b1 := hnn (k + 1)
        have hsucc : sumTo (fun j => if rt ps j = c ∧ 1 ≤ wd ps j ∧ wd ps j ≤ n then ts ps h (n - wd ps j) (lf ps j) else 0) (k + 1) = sumTo (fun j => if rt ps j = c ∧ 1 ≤ wd ps j ∧ wd ps j ≤ n then ts ps h (n - wd ps j) (lf ps j) else 0) k + (if rt ps k = c ∧ 1 ≤ wd ps k ∧ wd ps k ≤ n then ts ps h (n - wd ps k) (lf ps k) else 0) := rfl
        have hsu := b1.2 (by omega)
        show ∃ s', stp68a (n : Int) (c : Int) 0 ps (ps.length : Int) ra (h : Int) rc ps (sumTo (fun j => if rt ps j = c ∧ 1 ≤ wd ps j ∧ wd ps j ≤ n then ts ps h (n - wd ps j) (lf ps j) else 0) k) (k : Int) s = _ ∧ _
        unfold stp68a
        rw [Int.toNat_natCast, lt_true hk, inb_true hk, p1, p2, p3, wrap_succ (by omega)]
        by_cases hr : rt ps k = c
        · have e1 : ((rt ps k : Int) == (c : Int)) = true := by rw [beq_iff_eq]; omega
          rw [e1]
          by_cases hw : wd ps k ≤ n
          · have e2 : decide ((wd ps k : Int) ≤ (n : Int)) = true := decide_eq_true (by omega)
            have e3 : IntKind.i64.wrap ((n : Int) - (wd ps k : Int)) = ((n - wd ps k : Nat) : Int) := (wrap64 (by omega) (by omega)).trans (by omega)
            rw [if_pos ⟨hr, p4, hw⟩] at hsucc
            obtain ⟨k1, k2, k3⟩ := hK (n - wd ps k) (lf ps k) s (by omega) p6 (Int.le_trans (ts_sub hps hpos hk hr hw) hb) hs
            have hG : LG.G ra (h : Int) rc ps ra (h : Int) rc ps ((n - wd ps k : Nat) : Int) (lf ps k : Int) s = true := k1
            have hF : (LG.F ra (h : Int) rc ps ra (h : Int) rc ps ((n - wd ps k : Nat) : Int) (lf ps k : Int) s).1 = ts ps h (n - wd ps k) (lf ps k) := k2
            have hnn2 := ts_nonneg ps h (n - wd ps k) (lf ps k)
            refine ⟨(LG.F ra (h : Int) rc ps ra (h : Int) rc ps ((n - wd ps k : Nat) : Int) (lf ps k : Int) s).2, ?_, k3, fun y hy => hy⟩
            rw [e2, e3, hG, hF, wrap64 (by omega) (by omega), hsucc]
            rfl
          · have e2 : decide ((wd ps k : Int) ≤ (n : Int)) = false := decide_eq_false (by omega)
            rw [if_neg (fun h' => hw h'.2.2)] at hsucc
            refine ⟨s, ?_, hs, fun y hy => hy⟩
            rw [e2, hsucc, Int.add_zero]
            rfl
        · have e1 : ((rt ps k : Int) == (c : Int)) = false := by rw [beq_eq_false_iff_ne]; omega
          rw [if_neg (fun h' => hr h'.1)] at hsucc
          refine ⟨s, ?_, hs, fun y hy => hy⟩
          rw [e1, hsucc, Int.add_zero]
          rfl
      · refine ⟨.x0 (ts ps h n c) (ps.length : Int) s, ?_, (ps.length : Int), s, rfl, hs⟩
        show stp68a (n : Int) (c : Int) 0 ps (ps.length : Int) ra (h : Int) rc ps (sumTo (fun j => if rt ps j = c ∧ 1 ≤ wd ps j ∧ wd ps j ≤ n then ts ps h (n - wd ps j) (lf ps j) else 0) ps.length) (ps.length : Int) s = _
        unfold stp68a
        rw [lt_false, ← hts]; rfl
    obtain ⟨y, h1, a, m', h2, h3⟩ := run
    unfold g68 w68_0 w68_5 t68 i68a_0 v68a_0_t6 v68a_0_m2
    rw [e0, h1, h2]
    exact ⟨rfl, rfl, h3⟩
theorem lfN_ok {ps : PS} {h : Nat} {ra rc : Int} (hps : okPs ps) : ∀ N, N ≤ 3000 → FOK (lfN N) ps h ra rc N
  | 0, _ => fun n c m hn => by omega
  | N + 1, hN => list_ok hps (by omega) (get_ok (lfN_ok hps N (by omega)))
noncomputable instance lgE : LG := lgOf (lfN 3000)
theorem lgE_ok {ps : PS} {h : Nat} {ra rc : Int} (hps : okPs ps) : GOK lgE ps h ra rc 3000 := get_ok (lfN_ok hps 3000 (Nat.le_refl _))
/-! ### Half rows -/
theorem tw_split {ps : PS} (c p : Nat) : ∀ (m n h : Nat), tw ps p m h * tw ps c n p ≤ tw ps c (m + n) h := by
  intro m
  induction m using Nat.strongRecOn with
  | ind m ih =>
  intro n h
  have hx := tw_nonneg ps c n p
  rcases Nat.eq_zero_or_pos m with rfl | hm
  · rw [tw_zero, Nat.zero_add]
    split
    · rename_i e
      rw [e]; omega
    · rw [Int.zero_mul]
      exact tw_nonneg ps c n h
  · rw [tw_pos ps p h hm, tw_pos ps c h (show 0 < m + n by omega)]
    have mul : ∀ (f : Nat → Int) (x : Int) (k : Nat), sumTo f k * x = sumTo (fun j => f j * x) k := by
      intro f x k
      induction k with
      | zero => exact Int.zero_mul x
      | succ k ih =>
        show (sumTo f k + f k) * x = sumTo _ k + f k * x
        rw [Int.add_mul, ih]
    have le : ∀ (f g : Nat → Int) (k : Nat), (∀ j, f j ≤ g j) → sumTo f k ≤ sumTo g k := by
      intro f g k hfg
      induction k with
      | zero => exact Int.le_refl _
      | succ k ih =>
        show sumTo f k + f k ≤ sumTo g k + g k
        have := hfg k
        omega
    rw [mul]
    refine le _ _ _ fun j => ?_
    by_cases hc : lf ps j = h ∧ 1 ≤ wd ps j ∧ wd ps j ≤ m
    · rw [if_pos hc, if_pos ⟨hc.1, hc.2.1, by omega⟩, show m + n - wd ps j = (m - wd ps j) + n by omega]
      exact ih (m - wd ps j) (by omega) n (rt ps j)
    · rw [if_neg hc, Int.zero_mul]
      split
      · exact tw_nonneg _ _ _ _
      · exact Int.le_refl _
theorem sq_le {x y : Int} (h0 : 0 ≤ x) (h : x * x ≤ y) : x ≤ y := by
  rcases Int.lt_or_eq_of_le h0 with h1 | h1
  · have : x * 1 ≤ x * x := Int.mul_le_mul_of_nonneg_left (by omega) h0
    omega
  · subst h1
    simpa using h
theorem half_le {ps : PS} (hps : okPs ps) (hm : Mir ps) {h n p : Nat} : ts ps h n p ≤ tw ps h (n + n) h := by
  refine sq_le (ts_nonneg _ _ _ _) ?_
  have h1 := tw_split (ps := ps) h p n n h
  rw [tw_mir hps hm n h p, tw_ts] at h1
  exact h1
theorem half_le2 {ps : PS} (hps : okPs ps) (hm : Mir ps) {h n i : Nat} (hi : i < ps.length) (hs : mi ps i = i) : ts ps h n (lf ps i) ≤ tw ps h (n + (n + wd ps i)) h := by
  obtain ⟨p1, p2, p3, p4, p5, p6, p7⟩ := pc_nat hps hi
  obtain ⟨_, _, _, _, a4, _⟩ := mi_ok hps hm hi
  rw [hs] at a4
  refine sq_le (ts_nonneg _ _ _ _) ?_
  have h1 := tw_split (ps := ps) h (lf ps i) n (n + wd ps i) h
  have h2 : tw ps h n (rt ps i) ≤ tw ps h (n + wd ps i) (lf ps i) := by
    rw [tw_pos ps h (lf ps i) (show 0 < n + wd ps i by omega)]
    have := sumTo_at (f := fun k => if lf ps k = lf ps i ∧ 1 ≤ wd ps k ∧ wd ps k ≤ n + wd ps i then tw ps h (n + wd ps i - wd ps k) (rt ps k) else 0) (fun j => by
      split
      · exact tw_nonneg _ _ _ _
      · exact Int.le_refl _) hi
    rw [if_pos ⟨rfl, p4, by omega⟩, show n + wd ps i - wd ps i = n by omega] at this
    exact this
  rw [← a4, tw_mir hps hm n h (lf ps i), tw_ts] at h2
  rw [tw_ts] at h1
  exact Int.le_trans (Int.mul_le_mul_of_nonneg_left h2 (ts_nonneg _ _ _ _)) h1
end Go.Proofs.Ytgifjphinkbcaaa

set_option maxRecDepth 100000
set_option linter.unusedVariables false
namespace Go.Proofs.Ytgifjphinkbcaaa
open Go Go.Ev
noncomputable def SEv [LG] : Ev.Spec := insS 69 eLG (insS 50 e50 S0)
theorem SEv_ok [LG] : SpecOK Try.prog SEv := insS_ok eLG_ok (insS_ok e50_ok S0_ok)
end Go.Proofs.Ytgifjphinkbcaaa

set_option maxRecDepth 100000
set_option maxHeartbeats 1000000
set_option linter.unusedVariables false
namespace Go.Proofs.Ytgifjphinkbcaaa
open Go Go.Ev
variable [LG]

/-! ### Even -/
noncomputable def c37 : Code := match Try.f37.body with | some c => c | _ => .skip
noncomputable def lp37a : Code := loopAt c37 [true, true, true, true, true, true, true, false, true, false]
noncomputable def s37a (ra : Int) (rb : Int) (rc : Int) (ps : List (List AV)) (t2 : Int) (t3 : Int) (t8 : Int) (t9 : Int) (m17 : List (AV × AV)) (m21_0 : Int) (m21_1 : Int) (m21_2 : Int) (m21_3 : List (List AV)) : St :=
  { t := [(1, .rp [.int .i64, .int .i64, .int .i64, .sl 31] [.i .i64 ra, .i .i64 rb, .i .i64 rc, .rs 31 ps] 0), (2, .i .i64 t2), (3, .i .i64 t3), (6, .p 19 0 0), (7, .p 21 0 0), (8, .i .i64 t8), (9, .i .i64 t9)], m := [(0, .dead), (1, .dead), (2, .dead), (3, .dead), (4, .dead), (5, .dead), (6, .dead), (7, .dead), (8, .dead), (9, .dead), (10, .dead), (11, .dead), (12, .dead), (13, .dead), (14, .dead), (15, .dead), (16, .dead), (17, .mp 78 3 m17), (18, .dead), (19, .row 94 [[.mp 17]]), (20, .dead), (21, .row 76 [[.fn 68 [.rp [.int .i64, .int .i64, .int .i64, .sl 31] [.i .i64 m21_0, .i .i64 m21_1, .i .i64 m21_2, .rs 31 m21_3] 0, .p 19 0 0, .p 21 0 0]]])], nx := 22, nt := 85 }
structure S37a where
  t8 : Int
  t9 : Int
  m17 : List (AV × AV)
inductive T37a where
  | x0 (t8 : Int) (t9 : Int) (m17 : List (AV × AV))
noncomputable def stp37a (ra : Int) (rb : Int) (rc : Int) (ps : List (List AV)) (t2 : Int) (t3 : Int) (m21_0 : Int) (m21_1 : Int) (m21_2 : Int) (m21_3 : List (List AV)) (t8 : Int) (t9 : Int) (m17 : List (AV × AV)) : Lp S37a T37a :=
  cond (decide (t9 ≤ 9)) (cond (ra.tmod 2 == 0) (cond (LG.G m21_0 m21_1 m21_2 m21_3 m21_0 m21_1 m21_2 m21_3 (IntKind.i64.wrap (ra.tdiv 2)) t9 m17 && true) (.go ⟨IntKind.i64.wrap (t8 + (LG.F m21_0 m21_1 m21_2 m21_3 m21_0 m21_1 m21_2 m21_3 (IntKind.i64.wrap (ra.tdiv 2)) t9 m17).fst), IntKind.i64.wrap (t9 + 1), (LG.F m21_0 m21_1 m21_2 m21_3 m21_0 m21_1 m21_2 m21_3 (IntKind.i64.wrap (ra.tdiv 2)) t9 m17).snd⟩) (.bad)) (.out (.x0 t8 t9 m17))) (.out (.x0 t8 t9 m17))
noncomputable def o37a_0 (ra : Int) (rb : Int) (rc : Int) (ps : List (List AV)) (t2 : Int) (t3 : Int) (m21_0 : Int) (m21_1 : Int) (m21_2 : Int) (m21_3 : List (List AV)) (t8 : Int) (t9 : Int) (m17 : List (AV × AV)) : St :=
  { t := [(1, .rp [.int .i64, .int .i64, .int .i64, .sl 31] [.i .i64 ra, .i .i64 rb, .i .i64 rc, .rs 31 ps] 0), (2, .i .i64 t2), (3, .i .i64 t3), (6, .p 19 0 0), (7, .p 21 0 0), (8, .i .i64 t8), (9, .i .i64 t9)], m := [(0, .dead), (1, .dead), (2, .dead), (3, .dead), (4, .dead), (5, .dead), (6, .dead), (7, .dead), (8, .dead), (9, .dead), (10, .dead), (11, .dead), (12, .dead), (13, .dead), (14, .dead), (15, .dead), (16, .dead), (17, .mp 78 3 m17), (18, .dead), (19, .row 94 [[.mp 17]]), (20, .dead), (21, .row 76 [[.fn 68 [.rp [.int .i64, .int .i64, .int .i64, .sl 31] [.i .i64 m21_0, .i .i64 m21_1, .i .i64 m21_2, .rs 31 m21_3] 0, .p 19 0 0, .p 21 0 0]]])], nx := 22, nt := 85 }
noncomputable def ou37a (ra : Int) (rb : Int) (rc : Int) (ps : List (List AV)) (t2 : Int) (t3 : Int) (m21_0 : Int) (m21_1 : Int) (m21_2 : Int) (m21_3 : List (List AV)) : T37a → Ex × St
  | .x0 t8 t9 m17 => (.ext 0, o37a_0 ra rb rc ps t2 t3 m21_0 m21_1 m21_2 m21_3 t8 t9 m17)
noncomputable def r37a (ra : Int) (rb : Int) (rc : Int) (ps : List (List AV)) (t2 : Int) (t3 : Int) (m21_0 : Int) (m21_1 : Int) (m21_2 : Int) (m21_3 : List (List AV)) (t8 : Int) (t9 : Int) (m17 : List (AV × AV)) : Option T37a := run (fun x => stp37a ra rb rc ps t2 t3 m21_0 m21_1 m21_2 m21_3 x.t8 x.t9 x.m17) (⟨t8, t9, m17⟩ : S37a)
noncomputable def i37a_0 (ra : Int) (rb : Int) (rc : Int) (ps : List (List AV)) (t2 : Int) (t3 : Int) (m21_0 : Int) (m21_1 : Int) (m21_2 : Int) (m21_3 : List (List AV)) (t8 : Int) (t9 : Int) (m17 : List (AV × AV)) : Bool := match r37a ra rb rc ps t2 t3 m21_0 m21_1 m21_2 m21_3 t8 t9 m17 with
  | some (.x0 _ _ _) => true
  | _ => false
noncomputable def v37a_0_t8 (ra : Int) (rb : Int) (rc : Int) (ps : List (List AV)) (t2 : Int) (t3 : Int) (m21_0 : Int) (m21_1 : Int) (m21_2 : Int) (m21_3 : List (List AV)) (t8 : Int) (t9 : Int) (m17 : List (AV × AV)) : Int := match r37a ra rb rc ps t2 t3 m21_0 m21_1 m21_2 m21_3 t8 t9 m17 with
  | some (.x0 t8 _ _) => t8
  | _ => default
noncomputable def v37a_0_t9 (ra : Int) (rb : Int) (rc : Int) (ps : List (List AV)) (t2 : Int) (t3 : Int) (m21_0 : Int) (m21_1 : Int) (m21_2 : Int) (m21_3 : List (List AV)) (t8 : Int) (t9 : Int) (m17 : List (AV × AV)) : Int := match r37a ra rb rc ps t2 t3 m21_0 m21_1 m21_2 m21_3 t8 t9 m17 with
  | some (.x0 _ t9 _) => t9
  | _ => default
noncomputable def v37a_0_m17 (ra : Int) (rb : Int) (rc : Int) (ps : List (List AV)) (t2 : Int) (t3 : Int) (m21_0 : Int) (m21_1 : Int) (m21_2 : Int) (m21_3 : List (List AV)) (t8 : Int) (t9 : Int) (m17 : List (AV × AV)) : List (AV × AV) := match r37a ra rb rc ps t2 t3 m21_0 m21_1 m21_2 m21_3 t8 t9 m17 with
  | some (.x0 _ _ m17) => m17
  | _ => default
noncomputable def l37a (st : St) : Option (List (Bool × Ex × St)) := match normW Try.prog [(1, none), (2, none), (3, none), (6, none), (7, none), (8, none), (9, none)] 22 st with
  | some ([.rp [.int .i64, .int .i64, .int .i64, .sl 31] [.i .i64 ra, .i .i64 rb, .i .i64 rc, .rs 31 ps] 0, .i .i64 t2, .i .i64 t3, .p 19 0 0, .p 21 0 0, .i .i64 t8, .i .i64 t9], [(0, .dead), (1, .dead), (2, .dead), (3, .dead), (4, .dead), (5, .dead), (6, .dead), (7, .dead), (8, .dead), (9, .dead), (10, .dead), (11, .dead), (12, .dead), (13, .dead), (14, .dead), (15, .dead), (16, .dead), (17, .mp 78 3 m17), (18, .dead), (19, .row 94 [[.mp 17]]), (20, .dead), (21, .row 76 [[.fn 68 [.rp [.int .i64, .int .i64, .int .i64, .sl 31] [.i .i64 m21_0, .i .i64 m21_1, .i .i64 m21_2, .rs 31 m21_3] 0, .p 19 0 0, .p 21 0 0]]])], 22, 85) => some [(i37a_0 ra rb rc ps t2 t3 m21_0 m21_1 m21_2 m21_3 t8 t9 m17, .ext 0, o37a_0 ra rb rc ps t2 t3 m21_0 m21_1 m21_2 m21_3 (v37a_0_t8 ra rb rc ps t2 t3 m21_0 m21_1 m21_2 m21_3 t8 t9 m17) (v37a_0_t9 ra rb rc ps t2 t3 m21_0 m21_1 m21_2 m21_3 t8 t9 m17) (v37a_0_m17 ra rb rc ps t2 t3 m21_0 m21_1 m21_2 m21_3 t8 t9 m17))]
  | _ => none
noncomputable def lp37b : Code := loopAt c37 [true, true, true, true, true, true, true, true, false, true, false]
noncomputable def s37b (ra : Int) (rb : Int) (rc : Int) (ps : List (List AV)) (t2 : Int) (t3 : Int) (t8 : Int) (t49 : List (List AV)) (t50 : Int) (t51 : Int) (m17 : List (AV × AV)) (m21_0 : Int) (m21_1 : Int) (m21_2 : Int) (m21_3 : List (List AV)) : St :=
  { t := [(1, .rp [.int .i64, .int .i64, .int .i64, .sl 31] [.i .i64 ra, .i .i64 rb, .i .i64 rc, .rs 31 ps] 0), (2, .i .i64 t2), (3, .i .i64 t3), (6, .p 19 0 0), (7, .p 21 0 0), (8, .i .i64 t8), (49, .rs 31 t49), (50, .i .i64 t50), (51, .i .i64 t51)], m := [(0, .dead), (1, .dead), (2, .dead), (3, .dead), (4, .dead), (5, .dead), (6, .dead), (7, .dead), (8, .dead), (9, .dead), (10, .dead), (11, .dead), (12, .dead), (13, .dead), (14, .dead), (15, .dead), (16, .dead), (17, .mp 78 3 m17), (18, .dead), (19, .row 94 [[.mp 17]]), (20, .dead), (21, .row 76 [[.fn 68 [.rp [.int .i64, .int .i64, .int .i64, .sl 31] [.i .i64 m21_0, .i .i64 m21_1, .i .i64 m21_2, .rs 31 m21_3] 0, .p 19 0 0, .p 21 0 0]]])], nx := 22, nt := 85 }
structure S37b where
  t8 : Int
  t51 : Int
  m17 : List (AV × AV)
inductive T37b where
  | x0 (t8 : Int) (t51 : Int) (m17 : List (AV × AV))
noncomputable def stp37b (ra : Int) (rb : Int) (rc : Int) (ps : List (List AV)) (t2 : Int) (t3 : Int) (t49 : List (List AV)) (t50 : Int) (m21_0 : Int) (m21_1 : Int) (m21_2 : Int) (m21_3 : List (List AV)) (t8 : Int) (t51 : Int) (m17 : List (AV × AV)) : Lp S37b T37b :=
  cond (decide (t51 < t50)) (cond (inb t51 t49.length) (cond (fI (t49.getD t51.toNat []) 4 == t51) (cond (decide (IntKind.i64.wrap (ra - fI (t49.getD t51.toNat []) 1) ≥ 0)) (cond ((IntKind.i64.wrap (ra - fI (t49.getD t51.toNat []) 1)).tmod 2 == 0) (cond (LG.G m21_0 m21_1 m21_2 m21_3 m21_0 m21_1 m21_2 m21_3 (IntKind.i64.wrap ((IntKind.i64.wrap (ra - fI (t49.getD t51.toNat []) 1)).tdiv 2)) (fI (t49.getD t51.toNat []) 2) m17 && true) (.go ⟨IntKind.i64.wrap (t8 + (LG.F m21_0 m21_1 m21_2 m21_3 m21_0 m21_1 m21_2 m21_3 (IntKind.i64.wrap ((IntKind.i64.wrap (ra - fI (t49.getD t51.toNat []) 1)).tdiv 2)) (fI (t49.getD t51.toNat []) 2) m17).fst), IntKind.i64.wrap (t51 + 1), (LG.F m21_0 m21_1 m21_2 m21_3 m21_0 m21_1 m21_2 m21_3 (IntKind.i64.wrap ((IntKind.i64.wrap (ra - fI (t49.getD t51.toNat []) 1)).tdiv 2)) (fI (t49.getD t51.toNat []) 2) m17).snd⟩) (.bad)) (.go ⟨t8, IntKind.i64.wrap (t51 + 1), m17⟩)) (.go ⟨t8, IntKind.i64.wrap (t51 + 1), m17⟩)) (.go ⟨t8, IntKind.i64.wrap (t51 + 1), m17⟩)) (.bad)) (.out (.x0 t8 t51 m17))
noncomputable def o37b_0 (ra : Int) (rb : Int) (rc : Int) (ps : List (List AV)) (t2 : Int) (t3 : Int) (t49 : List (List AV)) (t50 : Int) (m21_0 : Int) (m21_1 : Int) (m21_2 : Int) (m21_3 : List (List AV)) (t8 : Int) (t51 : Int) (m17 : List (AV × AV)) : St :=
  { t := [(1, .rp [.int .i64, .int .i64, .int .i64, .sl 31] [.i .i64 ra, .i .i64 rb, .i .i64 rc, .rs 31 ps] 0), (2, .i .i64 t2), (3, .i .i64 t3), (6, .p 19 0 0), (7, .p 21 0 0), (8, .i .i64 t8), (49, .rs 31 t49), (50, .i .i64 t50), (51, .i .i64 t51)], m := [(0, .dead), (1, .dead), (2, .dead), (3, .dead), (4, .dead), (5, .dead), (6, .dead), (7, .dead), (8, .dead), (9, .dead), (10, .dead), (11, .dead), (12, .dead), (13, .dead), (14, .dead), (15, .dead), (16, .dead), (17, .mp 78 3 m17), (18, .dead), (19, .row 94 [[.mp 17]]), (20, .dead), (21, .row 76 [[.fn 68 [.rp [.int .i64, .int .i64, .int .i64, .sl 31] [.i .i64 m21_0, .i .i64 m21_1, .i .i64 m21_2, .rs 31 m21_3] 0, .p 19 0 0, .p 21 0 0]]])], nx := 22, nt := 85 }
noncomputable def ou37b (ra : Int) (rb : Int) (rc : Int) (ps : List (List AV)) (t2 : Int) (t3 : Int) (t49 : List (List AV)) (t50 : Int) (m21_0 : Int) (m21_1 : Int) (m21_2 : Int) (m21_3 : List (List AV)) : T37b → Ex × St
  | .x0 t8 t51 m17 => (.ext 2, o37b_0 ra rb rc ps t2 t3 t49 t50 m21_0 m21_1 m21_2 m21_3 t8 t51 m17)
noncomputable def r37b (ra : Int) (rb : Int) (rc : Int) (ps : List (List AV)) (t2 : Int) (t3 : Int) (t49 : List (List AV)) (t50 : Int) (m21_0 : Int) (m21_1 : Int) (m21_2 : Int) (m21_3 : List (List AV)) (t8 : Int) (t51 : Int) (m17 : List (AV × AV)) : Option T37b := run (fun x => stp37b ra rb rc ps t2 t3 t49 t50 m21_0 m21_1 m21_2 m21_3 x.t8 x.t51 x.m17) (⟨t8, t51, m17⟩ : S37b)
noncomputable def i37b_0 (ra : Int) (rb : Int) (rc : Int) (ps : List (List AV)) (t2 : Int) (t3 : Int) (t49 : List (List AV)) (t50 : Int) (m21_0 : Int) (m21_1 : Int) (m21_2 : Int) (m21_3 : List (List AV)) (t8 : Int) (t51 : Int) (m17 : List (AV × AV)) : Bool := match r37b ra rb rc ps t2 t3 t49 t50 m21_0 m21_1 m21_2 m21_3 t8 t51 m17 with
  | some (.x0 _ _ _) => true
  | _ => false
noncomputable def v37b_0_t8 (ra : Int) (rb : Int) (rc : Int) (ps : List (List AV)) (t2 : Int) (t3 : Int) (t49 : List (List AV)) (t50 : Int) (m21_0 : Int) (m21_1 : Int) (m21_2 : Int) (m21_3 : List (List AV)) (t8 : Int) (t51 : Int) (m17 : List (AV × AV)) : Int := match r37b ra rb rc ps t2 t3 t49 t50 m21_0 m21_1 m21_2 m21_3 t8 t51 m17 with
  | some (.x0 t8 _ _) => t8
  | _ => default
noncomputable def v37b_0_t51 (ra : Int) (rb : Int) (rc : Int) (ps : List (List AV)) (t2 : Int) (t3 : Int) (t49 : List (List AV)) (t50 : Int) (m21_0 : Int) (m21_1 : Int) (m21_2 : Int) (m21_3 : List (List AV)) (t8 : Int) (t51 : Int) (m17 : List (AV × AV)) : Int := match r37b ra rb rc ps t2 t3 t49 t50 m21_0 m21_1 m21_2 m21_3 t8 t51 m17 with
  | some (.x0 _ t51 _) => t51
  | _ => default
noncomputable def v37b_0_m17 (ra : Int) (rb : Int) (rc : Int) (ps : List (List AV)) (t2 : Int) (t3 : Int) (t49 : List (List AV)) (t50 : Int) (m21_0 : Int) (m21_1 : Int) (m21_2 : Int) (m21_3 : List (List AV)) (t8 : Int) (t51 : Int) (m17 : List (AV × AV)) : List (AV × AV) := match r37b ra rb rc ps t2 t3 t49 t50 m21_0 m21_1 m21_2 m21_3 t8 t51 m17 with
  | some (.x0 _ _ m17) => m17
  | _ => default
noncomputable def l37b (st : St) : Option (List (Bool × Ex × St)) := match normW Try.prog [(1, none), (2, none), (3, none), (6, none), (7, none), (8, none), (49, none), (50, none), (51, none)] 22 st with
  | some ([.rp [.int .i64, .int .i64, .int .i64, .sl 31] [.i .i64 ra, .i .i64 rb, .i .i64 rc, .rs 31 ps] 0, .i .i64 t2, .i .i64 t3, .p 19 0 0, .p 21 0 0, .i .i64 t8, .rs 31 t49, .i .i64 t50, .i .i64 t51], [(0, .dead), (1, .dead), (2, .dead), (3, .dead), (4, .dead), (5, .dead), (6, .dead), (7, .dead), (8, .dead), (9, .dead), (10, .dead), (11, .dead), (12, .dead), (13, .dead), (14, .dead), (15, .dead), (16, .dead), (17, .mp 78 3 m17), (18, .dead), (19, .row 94 [[.mp 17]]), (20, .dead), (21, .row 76 [[.fn 68 [.rp [.int .i64, .int .i64, .int .i64, .sl 31] [.i .i64 m21_0, .i .i64 m21_1, .i .i64 m21_2, .rs 31 m21_3] 0, .p 19 0 0, .p 21 0 0]]])], 22, 85) => some [(i37b_0 ra rb rc ps t2 t3 t49 t50 m21_0 m21_1 m21_2 m21_3 t8 t51 m17, .ext 2, o37b_0 ra rb rc ps t2 t3 t49 t50 m21_0 m21_1 m21_2 m21_3 (v37b_0_t8 ra rb rc ps t2 t3 t49 t50 m21_0 m21_1 m21_2 m21_3 t8 t51 m17) (v37b_0_t51 ra rb rc ps t2 t3 t49 t50 m21_0 m21_1 m21_2 m21_3 t8 t51 m17) (v37b_0_m17 ra rb rc ps t2 t3 t49 t50 m21_0 m21_1 m21_2 m21_3 t8 t51 m17))]
  | _ => none
noncomputable def L37 : LSpec := fun p st => match p with
  | [false, true, false, true, true, true, true, true, true, true] => l37a st
  | [false, true, false, true, true, true, true, true, true, true, true] => l37b st
  | _ => none
theorem is37a_0 (ra : Int) (rb : Int) (rc : Int) (ps : List (List AV)) (t2 : Int) (t3 : Int) (m21_0 : Int) (m21_1 : Int) (m21_2 : Int) (m21_3 : List (List AV)) (t8 : Int) (t9 : Int) (m17 : List (AV × AV)) (h : i37a_0 ra rb rc ps t2 t3 m21_0 m21_1 m21_2 m21_3 t8 t9 m17 = true) : r37a ra rb rc ps t2 t3 m21_0 m21_1 m21_2 m21_3 t8 t9 m17 = some (.x0 (v37a_0_t8 ra rb rc ps t2 t3 m21_0 m21_1 m21_2 m21_3 t8 t9 m17) (v37a_0_t9 ra rb rc ps t2 t3 m21_0 m21_1 m21_2 m21_3 t8 t9 m17) (v37a_0_m17 ra rb rc ps t2 t3 m21_0 m21_1 m21_2 m21_3 t8 t9 m17)) := by
  unfold i37a_0 at h
  unfold v37a_0_t8 v37a_0_t9 v37a_0_m17
  generalize r37a ra rb rc ps t2 t3 m21_0 m21_1 m21_2 m21_3 t8 t9 m17 = r at h ⊢
  rcases r with _ | y
  · cases h
  · cases y <;> first | rfl | cases h
theorem round37a (ra : Int) (rb : Int) (rc : Int) (ps : List (List AV)) (t2 : Int) (t3 : Int) (t8 : Int) (t9 : Int) (m17 : List (AV × AV)) (m21_0 : Int) (m21_1 : Int) (m21_2 : Int) (m21_3 : List (List AV)) : round Try.prog SEv (ro 37) L37 lp37a [false, true, false, true, true, true, true, true, true, true] [(1, none), (2, none), (3, none), (6, none), (7, none), (8, none), (9, none)] 22 (s37a ra rb rc ps t2 t3 t8 t9 m17 m21_0 m21_1 m21_2 m21_3) =
    cond (decide (t9 ≤ 9)) (cond (ra.tmod 2 == 0) (cond (LG.G m21_0 m21_1 m21_2 m21_3 m21_0 m21_1 m21_2 m21_3 (IntKind.i64.wrap (ra.tdiv 2)) t9 m17 && true) (some (.nrm, s37a ra rb rc ps t2 t3 (IntKind.i64.wrap (t8 + (LG.F m21_0 m21_1 m21_2 m21_3 m21_0 m21_1 m21_2 m21_3 (IntKind.i64.wrap (ra.tdiv 2)) t9 m17).fst)) (IntKind.i64.wrap (t9 + 1)) ((LG.F m21_0 m21_1 m21_2 m21_3 m21_0 m21_1 m21_2 m21_3 (IntKind.i64.wrap (ra.tdiv 2)) t9 m17).snd) m21_0 m21_1 m21_2 m21_3)) (none)) (some (.ext 0, o37a_0 ra rb rc ps t2 t3 m21_0 m21_1 m21_2 m21_3 t8 t9 m17))) (some (.ext 0, o37a_0 ra rb rc ps t2 t3 m21_0 m21_1 m21_2 m21_3 t8 t9 m17)) := by kernel_rfl
theorem rnd37a (ra : Int) (rb : Int) (rc : Int) (ps : List (List AV)) (t2 : Int) (t3 : Int) (m21_0 : Int) (m21_1 : Int) (m21_2 : Int) (m21_3 : List (List AV)) (x : S37a) : round Try.prog SEv (ro 37) L37 lp37a [false, true, false, true, true, true, true, true, true, true] [(1, none), (2, none), (3, none), (6, none), (7, none), (8, none), (9, none)] 22 ((fun x => s37a ra rb rc ps t2 t3 x.t8 x.t9 x.m17 m21_0 m21_1 m21_2 m21_3) x) = toR (fun x => s37a ra rb rc ps t2 t3 x.t8 x.t9 x.m17 m21_0 m21_1 m21_2 m21_3) (ou37a ra rb rc ps t2 t3 m21_0 m21_1 m21_2 m21_3) (stp37a ra rb rc ps t2 t3 m21_0 m21_1 m21_2 m21_3 x.t8 x.t9 x.m17) := by
  refine (round37a _ _ _ _ _ _ _ _ _ _ _ _ _ ).trans ?_
  unfold stp37a
  simp only [toR_cond]
  rfl
theorem lok37a {st : St} {outs : List (Bool × Ex × St)} {e : Ex} {s : St} (hl : l37a st = some outs) (hch : Chosen outs e s) :
    ∃ keep nb, 0 ≤ nb ∧ LB Try.prog SEv (ro 37) L37 lp37a [false, true, false, true, true, true, true, true, true, true] keep nb st e s := by
  unfold l37a at hl
  split at hl
  · rename_i ra rb rc ps t2 t3 t8 t9 m17 m21_0 m21_1 m21_2 m21_3 hno
    cases hl
    have hno := normW_norm hno
    refine ⟨_, _, ?_, .enter hno ?_⟩
    · decide
    have main := fun y h => LB_run (x := (⟨t8, t9, m17⟩ : S37a)) (y := y) (nb := 22) (fun y => by cases y <;> simp [ou37a]) (rnd37a ra rb rc ps t2 t3 m21_0 m21_1 m21_2 m21_3) h
    obtain ⟨x, hx, hg, rfl, rfl⟩ := chosen_any hch
    simp only [List.mem_cons, List.not_mem_nil, or_false] at hx
    subst hx
    exact main _ (is37a_0 ra rb rc ps t2 t3 m21_0 m21_1 m21_2 m21_3 t8 t9 m17 hg)
  · cases hl
theorem is37b_0 (ra : Int) (rb : Int) (rc : Int) (ps : List (List AV)) (t2 : Int) (t3 : Int) (t49 : List (List AV)) (t50 : Int) (m21_0 : Int) (m21_1 : Int) (m21_2 : Int) (m21_3 : List (List AV)) (t8 : Int) (t51 : Int) (m17 : List (AV × AV)) (h : i37b_0 ra rb rc ps t2 t3 t49 t50 m21_0 m21_1 m21_2 m21_3 t8 t51 m17 = true) : r37b ra rb rc ps t2 t3 t49 t50 m21_0 m21_1 m21_2 m21_3 t8 t51 m17 = some (.x0 (v37b_0_t8 ra rb rc ps t2 t3 t49 t50 m21_0 m21_1 m21_2 m21_3 t8 t51 m17) (v37b_0_t51 ra rb rc ps t2 t3 t49 t50 m21_0 m21_1 m21_2 m21_3 t8 t51 m17) (v37b_0_m17 ra rb rc ps t2 t3 t49 t50 m21_0 m21_1 m21_2 m21_3 t8 t51 m17)) := by
  unfold i37b_0 at h
  unfold v37b_0_t8 v37b_0_t51 v37b_0_m17
  generalize r37b ra rb rc ps t2 t3 t49 t50 m21_0 m21_1 m21_2 m21_3 t8 t51 m17 = r at h ⊢
  rcases r with _ | y
  · cases h
  · cases y <;> first | rfl | cases h
theorem round37b (ra : Int) (rb : Int) (rc : Int) (ps : List (List AV)) (t2 : Int) (t3 : Int) (t8 : Int) (t49 : List (List AV)) (t50 : Int) (t51 : Int) (m17 : List (AV × AV)) (m21_0 : Int) (m21_1 : Int) (m21_2 : Int) (m21_3 : List (List AV)) : round Try.prog SEv (ro 37) L37 lp37b [false, true, false, true, true, true, true, true, true, true, true] [(1, none), (2, none), (3, none), (6, none), (7, none), (8, none), (49, none), (50, none), (51, none)] 22 (s37b ra rb rc ps t2 t3 t8 t49 t50 t51 m17 m21_0 m21_1 m21_2 m21_3) =
    cond (decide (t51 < t50)) (cond (inb t51 t49.length) (cond (fI (t49.getD t51.toNat []) 4 == t51) (cond (decide (IntKind.i64.wrap (ra - fI (t49.getD t51.toNat []) 1) ≥ 0)) (cond ((IntKind.i64.wrap (ra - fI (t49.getD t51.toNat []) 1)).tmod 2 == 0) (cond (LG.G m21_0 m21_1 m21_2 m21_3 m21_0 m21_1 m21_2 m21_3 (IntKind.i64.wrap ((IntKind.i64.wrap (ra - fI (t49.getD t51.toNat []) 1)).tdiv 2)) (fI (t49.getD t51.toNat []) 2) m17 && true) (some (.nrm, s37b ra rb rc ps t2 t3 (IntKind.i64.wrap (t8 + (LG.F m21_0 m21_1 m21_2 m21_3 m21_0 m21_1 m21_2 m21_3 (IntKind.i64.wrap ((IntKind.i64.wrap (ra - fI (t49.getD t51.toNat []) 1)).tdiv 2)) (fI (t49.getD t51.toNat []) 2) m17).fst)) t49 t50 (IntKind.i64.wrap (t51 + 1)) ((LG.F m21_0 m21_1 m21_2 m21_3 m21_0 m21_1 m21_2 m21_3 (IntKind.i64.wrap ((IntKind.i64.wrap (ra - fI (t49.getD t51.toNat []) 1)).tdiv 2)) (fI (t49.getD t51.toNat []) 2) m17).snd) m21_0 m21_1 m21_2 m21_3)) (none)) (some (.nrm, s37b ra rb rc ps t2 t3 t8 t49 t50 (IntKind.i64.wrap (t51 + 1)) m17 m21_0 m21_1 m21_2 m21_3))) (some (.nrm, s37b ra rb rc ps t2 t3 t8 t49 t50 (IntKind.i64.wrap (t51 + 1)) m17 m21_0 m21_1 m21_2 m21_3))) (some (.nrm, s37b ra rb rc ps t2 t3 t8 t49 t50 (IntKind.i64.wrap (t51 + 1)) m17 m21_0 m21_1 m21_2 m21_3))) (none)) (some (.ext 2, o37b_0 ra rb rc ps t2 t3 t49 t50 m21_0 m21_1 m21_2 m21_3 t8 t51 m17)) := by kernel_rfl
theorem rnd37b (ra : Int) (rb : Int) (rc : Int) (ps : List (List AV)) (t2 : Int) (t3 : Int) (t49 : List (List AV)) (t50 : Int) (m21_0 : Int) (m21_1 : Int) (m21_2 : Int) (m21_3 : List (List AV)) (x : S37b) : round Try.prog SEv (ro 37) L37 lp37b [false, true, false, true, true, true, true, true, true, true, true] [(1, none), (2, none), (3, none), (6, none), (7, none), (8, none), (49, none), (50, none), (51, none)] 22 ((fun x => s37b ra rb rc ps t2 t3 x.t8 t49 t50 x.t51 x.m17 m21_0 m21_1 m21_2 m21_3) x) = toR (fun x => s37b ra rb rc ps t2 t3 x.t8 t49 t50 x.t51 x.m17 m21_0 m21_1 m21_2 m21_3) (ou37b ra rb rc ps t2 t3 t49 t50 m21_0 m21_1 m21_2 m21_3) (stp37b ra rb rc ps t2 t3 t49 t50 m21_0 m21_1 m21_2 m21_3 x.t8 x.t51 x.m17) := by
  refine (round37b _ _ _ _ _ _ _ _ _ _ _ _ _ _ _ ).trans ?_
  unfold stp37b
  simp only [toR_cond]
  rfl
theorem lok37b {st : St} {outs : List (Bool × Ex × St)} {e : Ex} {s : St} (hl : l37b st = some outs) (hch : Chosen outs e s) :
    ∃ keep nb, 0 ≤ nb ∧ LB Try.prog SEv (ro 37) L37 lp37b [false, true, false, true, true, true, true, true, true, true, true] keep nb st e s := by
  unfold l37b at hl
  split at hl
  · rename_i ra rb rc ps t2 t3 t8 t49 t50 t51 m17 m21_0 m21_1 m21_2 m21_3 hno
    cases hl
    have hno := normW_norm hno
    refine ⟨_, _, ?_, .enter hno ?_⟩
    · decide
    have main := fun y h => LB_run (x := (⟨t8, t51, m17⟩ : S37b)) (y := y) (nb := 22) (fun y => by cases y <;> simp [ou37b]) (rnd37b ra rb rc ps t2 t3 t49 t50 m21_0 m21_1 m21_2 m21_3) h
    obtain ⟨x, hx, hg, rfl, rfl⟩ := chosen_any hch
    simp only [List.mem_cons, List.not_mem_nil, or_false] at hx
    subst hx
    exact main _ (is37b_0 ra rb rc ps t2 t3 t49 t50 m21_0 m21_1 m21_2 m21_3 t8 t51 m17 hg)
  · cases hl
theorem L37_ok (q : Pl) (c : Code) (hq : locate c37 q.reverse = some (.loop c)) (st : St) (outs : List (Bool × Ex × St)) (e : Ex) (s : St) (hl : L37 q st = some outs) (hch : Chosen outs e s) :
    ∃ keep nb, 0 ≤ nb ∧ LB Try.prog SEv (ro 37) L37 c q keep nb st e s := by
  unfold L37 at hl
  split at hl
  · have : locate c37 ([false, true, false, true, true, true, true, true, true, true] : Pl).reverse = some (.loop lp37a) := by kernel_rfl
    rw [this] at hq
    cases hq
    exact lok37a hl hch
  · have : locate c37 ([false, true, false, true, true, true, true, true, true, true, true] : Pl).reverse = some (.loop lp37b) := by kernel_rfl
    rw [this] at hq
    cases hq
    exact lok37b hl hch
  · cases hl
theorem lok37 : LOK Try.prog SEv (ro 37) L37 0 false c37 [] :=
  lok_lo L37_ok c37 [] false (locate_nil _) (by kernel_rfl)
noncomputable def t37 (ra rb rc : Int) (ps : List (List AV)) : Tr ((Int) × (Int)) :=
  .cn (g50 ra rb rc ps) (.cn (w50_1 ra rb rc ps != 0) (.lf (0, w50_1 ra rb rc ps)) (.cn (rb != rc) (.lf (0, 0)) (.cn (i37a_0 ra rb rc ps 0 0 ra rb rc ps 0 0 []) (.cn (i37b_0 ra rb rc ps 0 0 ps (↑ps.length : Int) ra rb rc ps (v37a_0_t8 ra rb rc ps 0 0 ra rb rc ps 0 0 []) 0 (v37a_0_m17 ra rb rc ps 0 0 ra rb rc ps 0 0 [])) (.lf (v37b_0_t8 ra rb rc ps 0 0 ps (↑ps.length : Int) ra rb rc ps (v37a_0_t8 ra rb rc ps 0 0 ra rb rc ps 0 0 []) 0 (v37a_0_m17 ra rb rc ps 0 0 ra rb rc ps 0 0 []), 0)) (.nn)) (.nn)))) (.nn)
noncomputable def g37 (ra rb rc : Int) (ps : List (List AV)) : Bool := (t37 ra rb rc ps).g
noncomputable def w37_0 (ra rb rc : Int) (ps : List (List AV)) : Int := (t37 ra rb rc ps).val.1
noncomputable def w37_1 (ra rb rc : Int) (ps : List (List AV)) : Int := (t37 ra rb rc ps).val.2
theorem eq37 (ra rb rc : Int) (ps : List (List AV)) : evF Try.prog SEv (ro 37) L37 Try.f37 [.agg [.i .i64 ra, .i .i64 rb, .i .i64 rc, .rs 31 ps]] = (t37 ra rb rc ps).opt (fun (x : (Int) × (Int)) => (.tup [.i .i64 x.1, .i .i64 x.2] : AV)) := by kernel_rfl
theorem con37 (ra rb rc : Int) (ps : List (List AV)) (h : g37 ra rb rc ps = true) : Con Try.prog 37 [.agg [.i .i64 ra, .i .i64 rb, .i .i64 rc, .rs 31 ps]] [] (.tup [.i .i64 (w37_0 ra rb rc ps), .i .i64 (w37_1 ra rb rc ps)]) [] :=
  con_of SEv_ok mixed Try.func37 (c := c37) rfl (names 37 _ Try.func37) lok37 ((eq37 ra rb rc ps).trans (Tr.sound _ _ h))
noncomputable def e37 (args : List AV) (rows : List Blk) : Option (Bool × AV × List Blk) := match args, rows with
  | [.agg [.i .i64 ra, .i .i64 rb, .i .i64 rc, .rs 31 ps]], [] => some (g37 ra rb rc ps, .tup [.i .i64 (w37_0 ra rb rc ps), .i .i64 (w37_1 ra rb rc ps)], [])
  | _, _ => none
theorem e37_ok (args : List AV) (rows : List Blk) (pre : Bool) (v : AV) (rows' : List Blk) (h : e37 args rows = some (pre, v, rows')) (hp : pre = true) : Con Try.prog 37 args rows v rows' := by
  unfold e37 at h
  split at h
  · cases h; exact con37 _ _ _ _ hp
  · cases h
-- SPEC 37
end Go.Proofs.Ytgifjphinkbcaaa

set_option maxRecDepth 100000
set_option linter.unusedVariables false
namespace Go.Proofs.Ytgifjphinkbcaaa
open Go Go.Ev

/-! ### ref Even -/
noncomputable def c38 : Code := match Try.f38.body with | some c => c | _ => .skip
noncomputable def lp38a : Code := loopAt c38 [true, true, true, true, false, true, false]
noncomputable def s38a (ra : Int) (rb : Int) (rc : Int) (ps : List (List AV)) (t2 : Int) (t3 : Int) (t6 : Int) (t7 : Int) : St :=
  { t := [(1, .rp [.int .i64, .int .i64, .int .i64, .sl 31] [.i .i64 ra, .i .i64 rb, .i .i64 rc, .rs 31 ps] 0), (2, .i .i64 t2), (3, .i .i64 t3), (6, .i .i64 t6), (7, .i .i64 t7)], m := [], nx := 0, nt := 88 }
structure S38a where
  t6 : Int
  t7 : Int
inductive T38a where
  | x0 (t6 : Int) (t7 : Int)
noncomputable def stp38a (ra : Int) (rb : Int) (rc : Int) (ps : List (List AV)) (t2 : Int) (t3 : Int) (t6 : Int) (t7 : Int) : Lp S38a T38a :=
  cond (decide (t7 ≤ 9)) (cond (ra.tmod 2 == 0) (cond (g70 ra rb rc ps (IntKind.i64.wrap (ra.tdiv 2)) t7) (.go ⟨IntKind.i64.wrap (t6 + w70_0 ra rb rc ps (IntKind.i64.wrap (ra.tdiv 2)) t7), IntKind.i64.wrap (t7 + 1)⟩) (.bad)) (.out (.x0 t6 t7))) (.out (.x0 t6 t7))
noncomputable def o38a_0 (ra : Int) (rb : Int) (rc : Int) (ps : List (List AV)) (t2 : Int) (t3 : Int) (t6 : Int) (t7 : Int) : St :=
  { t := [(1, .rp [.int .i64, .int .i64, .int .i64, .sl 31] [.i .i64 ra, .i .i64 rb, .i .i64 rc, .rs 31 ps] 0), (2, .i .i64 t2), (3, .i .i64 t3), (6, .i .i64 t6), (7, .i .i64 t7)], m := [], nx := 0, nt := 88 }
noncomputable def ou38a (ra : Int) (rb : Int) (rc : Int) (ps : List (List AV)) (t2 : Int) (t3 : Int) : T38a → Ex × St
  | .x0 t6 t7 => (.ext 0, o38a_0 ra rb rc ps t2 t3 t6 t7)
noncomputable def r38a (ra : Int) (rb : Int) (rc : Int) (ps : List (List AV)) (t2 : Int) (t3 : Int) (t6 : Int) (t7 : Int) : Option T38a := run (fun x => stp38a ra rb rc ps t2 t3 x.t6 x.t7) (⟨t6, t7⟩ : S38a)
noncomputable def i38a_0 (ra : Int) (rb : Int) (rc : Int) (ps : List (List AV)) (t2 : Int) (t3 : Int) (t6 : Int) (t7 : Int) : Bool := match r38a ra rb rc ps t2 t3 t6 t7 with
  | some (.x0 _ _) => true
  | _ => false
noncomputable def v38a_0_t6 (ra : Int) (rb : Int) (rc : Int) (ps : List (List AV)) (t2 : Int) (t3 : Int) (t6 : Int) (t7 : Int) : Int := match r38a ra rb rc ps t2 t3 t6 t7 with
  | some (.x0 t6 _) => t6
  | _ => default
noncomputable def v38a_0_t7 (ra : Int) (rb : Int) (rc : Int) (ps : List (List AV)) (t2 : Int) (t3 : Int) (t6 : Int) (t7 : Int) : Int := match r38a ra rb rc ps t2 t3 t6 t7 with
  | some (.x0 _ t7) => t7
  | _ => default
noncomputable def l38a (st : St) : Option (List (Bool × Ex × St)) := match normW Try.prog [(1, none), (2, none), (3, none), (6, none), (7, none)] 0 st with
  | some ([.rp [.int .i64, .int .i64, .int .i64, .sl 31] [.i .i64 ra, .i .i64 rb, .i .i64 rc, .rs 31 ps] 0, .i .i64 t2, .i .i64 t3, .i .i64 t6, .i .i64 t7], [], 0, 88) => some [(i38a_0 ra rb rc ps t2 t3 t6 t7, .ext 0, o38a_0 ra rb rc ps t2 t3 (v38a_0_t6 ra rb rc ps t2 t3 t6 t7) (v38a_0_t7 ra rb rc ps t2 t3 t6 t7))]
  | _ => none
noncomputable def lp38b : Code := loopAt c38 [true, true, true, true, true, false, true, false]
noncomputable def s38b (ra : Int) (rb : Int) (rc : Int) (ps : List (List AV)) (t2 : Int) (t3 : Int) (t6 : Int) (t8 : Int) : St :=
  { t := [(1, .rp [.int .i64, .int .i64, .int .i64, .sl 31] [.i .i64 ra, .i .i64 rb, .i .i64 rc, .rs 31 ps] 0), (2, .i .i64 t2), (3, .i .i64 t3), (6, .i .i64 t6), (8, .i .i64 t8)], m := [], nx := 0, nt := 88 }
structure S38b where
  t6 : Int
  t8 : Int
inductive T38b where
  | x0 (t6 : Int) (t8 : Int)
noncomputable def stp38b (ra : Int) (rb : Int) (rc : Int) (ps : List (List AV)) (t2 : Int) (t3 : Int) (t6 : Int) (t8 : Int) : Lp S38b T38b :=
  cond (decide (t8 < (↑ps.length : Int))) (cond (inb t8 ps.length) (cond (fI (ps.getD t8.toNat []) 4 == t8) (cond (decide (fI (ps.getD t8.toNat []) 1 ≤ ra)) (cond ((IntKind.i64.wrap (ra - fI (ps.getD t8.toNat []) 1)).tmod 2 == 0) (cond (g70 ra rb rc ps (IntKind.i64.wrap ((IntKind.i64.wrap (ra - fI (ps.getD t8.toNat []) 1)).tdiv 2)) (fI (ps.getD t8.toNat []) 2)) (.go ⟨IntKind.i64.wrap (t6 + w70_0 ra rb rc ps (IntKind.i64.wrap ((IntKind.i64.wrap (ra - fI (ps.getD t8.toNat []) 1)).tdiv 2)) (fI (ps.getD t8.toNat []) 2)), IntKind.i64.wrap (t8 + 1)⟩) (.bad)) (.go ⟨t6, IntKind.i64.wrap (t8 + 1)⟩)) (.go ⟨t6, IntKind.i64.wrap (t8 + 1)⟩)) (.go ⟨t6, IntKind.i64.wrap (t8 + 1)⟩)) (.bad)) (.out (.x0 t6 t8))
noncomputable def o38b_0 (ra : Int) (rb : Int) (rc : Int) (ps : List (List AV)) (t2 : Int) (t3 : Int) (t6 : Int) (t8 : Int) : St :=
  { t := [(1, .rp [.int .i64, .int .i64, .int .i64, .sl 31] [.i .i64 ra, .i .i64 rb, .i .i64 rc, .rs 31 ps] 0), (2, .i .i64 t2), (3, .i .i64 t3), (6, .i .i64 t6), (8, .i .i64 t8)], m := [], nx := 0, nt := 88 }
noncomputable def ou38b (ra : Int) (rb : Int) (rc : Int) (ps : List (List AV)) (t2 : Int) (t3 : Int) : T38b → Ex × St
  | .x0 t6 t8 => (.ext 2, o38b_0 ra rb rc ps t2 t3 t6 t8)
noncomputable def r38b (ra : Int) (rb : Int) (rc : Int) (ps : List (List AV)) (t2 : Int) (t3 : Int) (t6 : Int) (t8 : Int) : Option T38b := run (fun x => stp38b ra rb rc ps t2 t3 x.t6 x.t8) (⟨t6, t8⟩ : S38b)
noncomputable def i38b_0 (ra : Int) (rb : Int) (rc : Int) (ps : List (List AV)) (t2 : Int) (t3 : Int) (t6 : Int) (t8 : Int) : Bool := match r38b ra rb rc ps t2 t3 t6 t8 with
  | some (.x0 _ _) => true
  | _ => false
noncomputable def v38b_0_t6 (ra : Int) (rb : Int) (rc : Int) (ps : List (List AV)) (t2 : Int) (t3 : Int) (t6 : Int) (t8 : Int) : Int := match r38b ra rb rc ps t2 t3 t6 t8 with
  | some (.x0 t6 _) => t6
  | _ => default
noncomputable def v38b_0_t8 (ra : Int) (rb : Int) (rc : Int) (ps : List (List AV)) (t2 : Int) (t3 : Int) (t6 : Int) (t8 : Int) : Int := match r38b ra rb rc ps t2 t3 t6 t8 with
  | some (.x0 _ t8) => t8
  | _ => default
noncomputable def l38b (st : St) : Option (List (Bool × Ex × St)) := match normW Try.prog [(1, none), (2, none), (3, none), (6, none), (8, none)] 0 st with
  | some ([.rp [.int .i64, .int .i64, .int .i64, .sl 31] [.i .i64 ra, .i .i64 rb, .i .i64 rc, .rs 31 ps] 0, .i .i64 t2, .i .i64 t3, .i .i64 t6, .i .i64 t8], [], 0, 88) => some [(i38b_0 ra rb rc ps t2 t3 t6 t8, .ext 2, o38b_0 ra rb rc ps t2 t3 (v38b_0_t6 ra rb rc ps t2 t3 t6 t8) (v38b_0_t8 ra rb rc ps t2 t3 t6 t8))]
  | _ => none
noncomputable def L38 : LSpec := fun p st => match p with
  | [false, true, false, true, true, true, true] => l38a st
  | [false, true, false, true, true, true, true, true] => l38b st
  | _ => none
theorem is38a_0 (ra : Int) (rb : Int) (rc : Int) (ps : List (List AV)) (t2 : Int) (t3 : Int) (t6 : Int) (t7 : Int) (h : i38a_0 ra rb rc ps t2 t3 t6 t7 = true) : r38a ra rb rc ps t2 t3 t6 t7 = some (.x0 (v38a_0_t6 ra rb rc ps t2 t3 t6 t7) (v38a_0_t7 ra rb rc ps t2 t3 t6 t7)) := by
  unfold i38a_0 at h
  unfold v38a_0_t6 v38a_0_t7
  generalize r38a ra rb rc ps t2 t3 t6 t7 = r at h ⊢
  rcases r with _ | y
  · cases h
  · cases y <;> first | rfl | cases h
theorem round38a (ra : Int) (rb : Int) (rc : Int) (ps : List (List AV)) (t2 : Int) (t3 : Int) (t6 : Int) (t7 : Int) : round Try.prog Sh (ro 38) L38 lp38a [false, true, false, true, true, true, true] [(1, none), (2, none), (3, none), (6, none), (7, none)] 0 (s38a ra rb rc ps t2 t3 t6 t7) =
    cond (decide (t7 ≤ 9)) (cond (ra.tmod 2 == 0) (cond (g70 ra rb rc ps (IntKind.i64.wrap (ra.tdiv 2)) t7) (some (.nrm, s38a ra rb rc ps t2 t3 (IntKind.i64.wrap (t6 + w70_0 ra rb rc ps (IntKind.i64.wrap (ra.tdiv 2)) t7)) (IntKind.i64.wrap (t7 + 1)))) (none)) (some (.ext 0, o38a_0 ra rb rc ps t2 t3 t6 t7))) (some (.ext 0, o38a_0 ra rb rc ps t2 t3 t6 t7)) := by kernel_rfl
theorem rnd38a (ra : Int) (rb : Int) (rc : Int) (ps : List (List AV)) (t2 : Int) (t3 : Int) (x : S38a) : round Try.prog Sh (ro 38) L38 lp38a [false, true, false, true, true, true, true] [(1, none), (2, none), (3, none), (6, none), (7, none)] 0 ((fun x => s38a ra rb rc ps t2 t3 x.t6 x.t7) x) = toR (fun x => s38a ra rb rc ps t2 t3 x.t6 x.t7) (ou38a ra rb rc ps t2 t3) (stp38a ra rb rc ps t2 t3 x.t6 x.t7) := by
  refine (round38a _ _ _ _ _ _ _ _ ).trans ?_
  unfold stp38a
  simp only [toR_cond]
  rfl
theorem lok38a {st : St} {outs : List (Bool × Ex × St)} {e : Ex} {s : St} (hl : l38a st = some outs) (hch : Chosen outs e s) :
    ∃ keep nb, 0 ≤ nb ∧ LB Try.prog Sh (ro 38) L38 lp38a [false, true, false, true, true, true, true] keep nb st e s := by
  unfold l38a at hl
  split at hl
  · rename_i ra rb rc ps t2 t3 t6 t7 hno
    cases hl
    have hno := normW_norm hno
    refine ⟨_, _, ?_, .enter hno ?_⟩
    · decide
    have main := fun y h => LB_run (x := (⟨t6, t7⟩ : S38a)) (y := y) (nb := 0) (fun y => by cases y <;> simp [ou38a]) (rnd38a ra rb rc ps t2 t3) h
    obtain ⟨x, hx, hg, rfl, rfl⟩ := chosen_any hch
    simp only [List.mem_cons, List.not_mem_nil, or_false] at hx
    subst hx
    exact main _ (is38a_0 ra rb rc ps t2 t3 t6 t7 hg)
  · cases hl
theorem is38b_0 (ra : Int) (rb : Int) (rc : Int) (ps : List (List AV)) (t2 : Int) (t3 : Int) (t6 : Int) (t8 : Int) (h : i38b_0 ra rb rc ps t2 t3 t6 t8 = true) : r38b ra rb rc ps t2 t3 t6 t8 = some (.x0 (v38b_0_t6 ra rb rc ps t2 t3 t6 t8) (v38b_0_t8 ra rb rc ps t2 t3 t6 t8)) := by
  unfold i38b_0 at h
  unfold v38b_0_t6 v38b_0_t8
  generalize r38b ra rb rc ps t2 t3 t6 t8 = r at h ⊢
  rcases r with _ | y
  · cases h
  · cases y <;> first | rfl | cases h
theorem round38b (ra : Int) (rb : Int) (rc : Int) (ps : List (List AV)) (t2 : Int) (t3 : Int) (t6 : Int) (t8 : Int) : round Try.prog Sh (ro 38) L38 lp38b [false, true, false, true, true, true, true, true] [(1, none), (2, none), (3, none), (6, none), (8, none)] 0 (s38b ra rb rc ps t2 t3 t6 t8) =
    cond (decide (t8 < (↑ps.length : Int))) (cond (inb t8 ps.length) (cond (fI (ps.getD t8.toNat []) 4 == t8) (cond (decide (fI (ps.getD t8.toNat []) 1 ≤ ra)) (cond ((IntKind.i64.wrap (ra - fI (ps.getD t8.toNat []) 1)).tmod 2 == 0) (cond (g70 ra rb rc ps (IntKind.i64.wrap ((IntKind.i64.wrap (ra - fI (ps.getD t8.toNat []) 1)).tdiv 2)) (fI (ps.getD t8.toNat []) 2)) (some (.nrm, s38b ra rb rc ps t2 t3 (IntKind.i64.wrap (t6 + w70_0 ra rb rc ps (IntKind.i64.wrap ((IntKind.i64.wrap (ra - fI (ps.getD t8.toNat []) 1)).tdiv 2)) (fI (ps.getD t8.toNat []) 2))) (IntKind.i64.wrap (t8 + 1)))) (none)) (some (.nrm, s38b ra rb rc ps t2 t3 t6 (IntKind.i64.wrap (t8 + 1))))) (some (.nrm, s38b ra rb rc ps t2 t3 t6 (IntKind.i64.wrap (t8 + 1))))) (some (.nrm, s38b ra rb rc ps t2 t3 t6 (IntKind.i64.wrap (t8 + 1))))) (none)) (some (.ext 2, o38b_0 ra rb rc ps t2 t3 t6 t8)) := by kernel_rfl
theorem rnd38b (ra : Int) (rb : Int) (rc : Int) (ps : List (List AV)) (t2 : Int) (t3 : Int) (x : S38b) : round Try.prog Sh (ro 38) L38 lp38b [false, true, false, true, true, true, true, true] [(1, none), (2, none), (3, none), (6, none), (8, none)] 0 ((fun x => s38b ra rb rc ps t2 t3 x.t6 x.t8) x) = toR (fun x => s38b ra rb rc ps t2 t3 x.t6 x.t8) (ou38b ra rb rc ps t2 t3) (stp38b ra rb rc ps t2 t3 x.t6 x.t8) := by
  refine (round38b _ _ _ _ _ _ _ _ ).trans ?_
  unfold stp38b
  simp only [toR_cond]
  rfl
theorem lok38b {st : St} {outs : List (Bool × Ex × St)} {e : Ex} {s : St} (hl : l38b st = some outs) (hch : Chosen outs e s) :
    ∃ keep nb, 0 ≤ nb ∧ LB Try.prog Sh (ro 38) L38 lp38b [false, true, false, true, true, true, true, true] keep nb st e s := by
  unfold l38b at hl
  split at hl
  · rename_i ra rb rc ps t2 t3 t6 t8 hno
    cases hl
    have hno := normW_norm hno
    refine ⟨_, _, ?_, .enter hno ?_⟩
    · decide
    have main := fun y h => LB_run (x := (⟨t6, t8⟩ : S38b)) (y := y) (nb := 0) (fun y => by cases y <;> simp [ou38b]) (rnd38b ra rb rc ps t2 t3) h
    obtain ⟨x, hx, hg, rfl, rfl⟩ := chosen_any hch
    simp only [List.mem_cons, List.not_mem_nil, or_false] at hx
    subst hx
    exact main _ (is38b_0 ra rb rc ps t2 t3 t6 t8 hg)
  · cases hl
theorem L38_ok (q : Pl) (c : Code) (hq : locate c38 q.reverse = some (.loop c)) (st : St) (outs : List (Bool × Ex × St)) (e : Ex) (s : St) (hl : L38 q st = some outs) (hch : Chosen outs e s) :
    ∃ keep nb, 0 ≤ nb ∧ LB Try.prog Sh (ro 38) L38 c q keep nb st e s := by
  unfold L38 at hl
  split at hl
  · have : locate c38 ([false, true, false, true, true, true, true] : Pl).reverse = some (.loop lp38a) := by kernel_rfl
    rw [this] at hq
    cases hq
    exact lok38a hl hch
  · have : locate c38 ([false, true, false, true, true, true, true, true] : Pl).reverse = some (.loop lp38b) := by kernel_rfl
    rw [this] at hq
    cases hq
    exact lok38b hl hch
  · cases hl
theorem lok38 : LOK Try.prog Sh (ro 38) L38 0 false c38 [] :=
  lok_lo L38_ok c38 [] false (locate_nil _) (by kernel_rfl)
noncomputable def t38 (ra rb rc : Int) (ps : List (List AV)) : Tr ((Int) × (Int)) :=
  .cn (g67 ra rb rc ps) (.cn (w67_1 ra rb rc ps != 0) (.lf (0, w67_1 ra rb rc ps)) (.cn (rb != rc) (.lf (0, w67_1 ra rb rc ps)) (.cn (i38a_0 ra rb rc ps 0 0 0 0) (.cn (i38b_0 ra rb rc ps 0 0 (v38a_0_t6 ra rb rc ps 0 0 0 0) 0) (.lf (v38b_0_t6 ra rb rc ps 0 0 (v38a_0_t6 ra rb rc ps 0 0 0 0) 0, 0)) (.nn)) (.nn)))) (.nn)
noncomputable def g38 (ra rb rc : Int) (ps : List (List AV)) : Bool := (t38 ra rb rc ps).g
noncomputable def w38_0 (ra rb rc : Int) (ps : List (List AV)) : Int := (t38 ra rb rc ps).val.1
noncomputable def w38_1 (ra rb rc : Int) (ps : List (List AV)) : Int := (t38 ra rb rc ps).val.2
theorem eq38 (ra rb rc : Int) (ps : List (List AV)) : evF Try.prog Sh (ro 38) L38 Try.f38 [.agg [.i .i64 ra, .i .i64 rb, .i .i64 rc, .rs 31 ps]] = (t38 ra rb rc ps).opt (fun (x : (Int) × (Int)) => (.tup [.i .i64 x.1, .i .i64 x.2] : AV)) := by kernel_rfl
theorem con38 (ra rb rc : Int) (ps : List (List AV)) (h : g38 ra rb rc ps = true) : Con Try.prog 38 [.agg [.i .i64 ra, .i .i64 rb, .i .i64 rc, .rs 31 ps]] [] (.tup [.i .i64 (w38_0 ra rb rc ps), .i .i64 (w38_1 ra rb rc ps)]) [] :=
  con_of Sh_ok mixed Try.func38 (c := c38) rfl (names 38 _ Try.func38) lok38 ((eq38 ra rb rc ps).trans (Tr.sound _ _ h))
noncomputable def e38 (args : List AV) (rows : List Blk) : Option (Bool × AV × List Blk) := match args, rows with
  | [.agg [.i .i64 ra, .i .i64 rb, .i .i64 rc, .rs 31 ps]], [] => some (g38 ra rb rc ps, .tup [.i .i64 (w38_0 ra rb rc ps), .i .i64 (w38_1 ra rb rc ps)], [])
  | _, _ => none
theorem e38_ok (args : List AV) (rows : List Blk) (pre : Bool) (v : AV) (rows' : List Blk) (h : e38 args rows = some (pre, v, rows')) (hp : pre = true) : Con Try.prog 38 args rows v rows' := by
  unfold e38 at h
  split at h
  · cases h; exact con38 _ _ _ _ hp
  · cases h
-- SPEC 38
end Go.Proofs.Ytgifjphinkbcaaa
