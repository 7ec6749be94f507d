/-
  The law RidgeFibonacci of the roofer's ridges answers true whatever byte it is handed; no conditions.
-/
import Derived.Test.YtgifjphinkbcaaaRd
import Derived.Test.YtgifjphinkbcaaaRc
set_option linter.unusedVariables false
set_option maxRecDepth 100000
set_option linter.unusedVariables false
namespace Go.Proofs.Ytgifjphinkbcaaa
open Go Go.Ev

/-! ### counted -/
noncomputable def c50 : Code := match Try.f50.body with | some c => c | _ => .skip
theorem lok50 : LOK Try.prog Sf (ro 50) (fun _ _ => none) 0 false c50 [] :=
  lok_lo (fun _ _ _ _ _ _ _ h _ => by cases h) c50 [] false (locate_nil _) (by kernel_rfl)
noncomputable def t50 (ra rb rc : Int) (ps : List (List AV)) : Tr ((List (List AV)) × (Int)) :=
  .cn (g29 ra rb rc ps) (.cn (w29_0 ra rb rc ps != 0) (.lf ([], w29_0 ra rb rc ps)) (.cn (g81 ra rb rc ps) (.cn (g51 (w81_0 ra rb rc ps) (w52_0 ra rb rc ps) (w52_1 ra rb rc ps)) (.cn (decide (w51_0 (w81_0 ra rb rc ps) (w52_0 ra rb rc ps) (w52_1 ra rb rc ps) > 1000000000000000)) (.lf ([], 3)) (.lf (w81_0 ra rb rc ps, 0))) (.nn)) (.nn))) (.nn)
noncomputable def g50 (ra rb rc : Int) (ps : List (List AV)) : Bool := (t50 ra rb rc ps).g
noncomputable def w50_0 (ra rb rc : Int) (ps : List (List AV)) : List (List AV) := (t50 ra rb rc ps).val.1
noncomputable def w50_1 (ra rb rc : Int) (ps : List (List AV)) : Int := (t50 ra rb rc ps).val.2
noncomputable def a50 (ra rb rc : Int) (ps : List (List AV)) : Tr AV :=
  .cn (g29 ra rb rc ps) (.cn (w29_0 ra rb rc ps != 0) (.lf (.tup [.nl, .i .i64 (w29_0 ra rb rc ps)])) (.cn (g81 ra rb rc ps) (.cn (g51 (w81_0 ra rb rc ps) (w52_0 ra rb rc ps) (w52_1 ra rb rc ps)) (.cn (decide (w51_0 (w81_0 ra rb rc ps) (w52_0 ra rb rc ps) (w52_1 ra rb rc ps) > 1000000000000000)) (.lf (.tup [.nl, .i .i64 3])) (.lf (.tup [.rs 91 (w81_0 ra rb rc ps), .i .i64 0]))) (.nn)) (.nn))) (.nn)
theorem eq50 (ra rb rc : Int) (ps : List (List AV)) : evF Try.prog Sf (ro 50) (fun _ _ => none) Try.f50 [.agg [.i .i64 ra, .i .i64 rb, .i .i64 rc, .rs 31 ps]] = (a50 ra rb rc ps).opt id := by kernel_rfl
theorem wk50 (ra rb rc : Int) (ps : List (List AV)) : (a50 ra rb rc ps).map (wkV [some 91, none]) = (t50 ra rb rc ps).map (fun (x : (List (List AV)) × (Int)) => (.tup [.rs 91 x.1, .i .i64 x.2] : AV)) := by kernel_rfl
theorem con50 (ra rb rc : Int) (ps : List (List AV)) (h : g50 ra rb rc ps = true) : Con Try.prog 50 [.agg [.i .i64 ra, .i .i64 rb, .i .i64 rc, .rs 31 ps]] [] (.tup [.rs 91 (w50_0 ra rb rc ps), .i .i64 (w50_1 ra rb rc ps)]) [] := by
  obtain ⟨v, h1, h2⟩ := Tr.soundW (eq50 ra rb rc ps) (wk50 ra rb rc ps) h
  have := (con_of Sf_ok mixed Try.func50 (c := c50) rfl (names 50 _ Try.func50) lok50 h1).wk [some 91, none]
  rw [h2] at this
  exact this
noncomputable def e50 (args : List AV) (rows : List Blk) : Option (Bool × AV × List Blk) := match args, rows with
  | [.agg [.i .i64 ra, .i .i64 rb, .i .i64 rc, .rs 31 ps]], [] => some (g50 ra rb rc ps, .tup [.rs 91 (w50_0 ra rb rc ps), .i .i64 (w50_1 ra rb rc ps)], [])
  | _, _ => none
theorem e50_ok (args : List AV) (rows : List Blk) (pre : Bool) (v : AV) (rows' : List Blk) (h : e50 args rows = some (pre, v, rows')) (hp : pre = true) : Con Try.prog 50 args rows v rows' := by
  unfold e50 at h
  split at h
  · cases h; exact con50 _ _ _ _ hp
  · cases h
-- SPEC 50
end Go.Proofs.Ytgifjphinkbcaaa

set_option maxRecDepth 100000
set_option linter.unusedVariables false
namespace Go.Proofs.Ytgifjphinkbcaaa
open Go Go.Ev

/-! ### table -/
noncomputable def c87 : Code := match Try.f87.body with | some c => c | _ => .skip
noncomputable def lp87a : Code := loopAt c87 [true, true, true, false, true, false]
noncomputable def s87a (ra : Int) (rb : Int) (rc : Int) (ps : List (List AV)) (t3 : Nat) (t4 : Int) (m5 : List (List AV)) : St :=
  { t := [(1, .rp [.int .i64, .int .i64, .int .i64, .sl 31] [.i .i64 ra, .i .i64 rb, .i .i64 rc, .rs 31 ps] 0), (2, .nl), (3, .sl 5 0 t3), (4, .i .i64 t4)], m := [(0, .dead), (1, .dead), (2, .dead), (3, .dead), (4, .dead), (5, .row 91 m5)], nx := 6, nt := 64 }
noncomputable def lp87aa : Code := loopAt c87 [true, true, true, false, true, false, false, true, false, false, true, false]
noncomputable def s87aa (ra : Int) (rb : Int) (rc : Int) (ps : List (List AV)) (t3 : Nat) (t4 : Int) (t5 : Int) (m5 : List (List AV)) : St :=
  { t := [(1, .rp [.int .i64, .int .i64, .int .i64, .sl 31] [.i .i64 ra, .i .i64 rb, .i .i64 rc, .rs 31 ps] 0), (2, .nl), (3, .sl 5 0 t3), (4, .i .i64 t4), (5, .i .i64 t5)], m := [(0, .dead), (1, .dead), (2, .dead), (3, .dead), (4, .dead), (5, .row 91 m5)], nx := 6, nt := 64 }
structure S87aa where
  t5 : Int
  m5 : List (List AV)
inductive T87aa where
  | x0 (t5 : Int) (m5 : List (List AV))
noncomputable def stp87aa (ra : Int) (rb : Int) (rc : Int) (ps : List (List AV)) (t3 : Nat) (t4 : Int) (t5 : Int) (m5 : List (List AV)) : Lp S87aa T87aa :=
  cond (decide (t5 < (↑ps.length : Int))) (cond (inb t5 ps.length) (cond (decide (fI (ps.getD t5.toNat []) 1 ≤ t4)) (cond (inb t4 t3 && (0 + t4.toNat).blt m5.length) (cond (inb (fI (ps.getD t5.toNat []) 2) 10) (cond (ctsAt (cts Try.prog 91) (0 + (fI (ps.getD t5.toNat []) 2).toNat * 1) (cts Try.prog 3) && (0 + t4.toNat).blt m5.length) (cond (inb (IntKind.i64.wrap (t4 - fI (ps.getD t5.toNat []) 1)) t3 && (0 + (IntKind.i64.wrap (t4 - fI (ps.getD t5.toNat []) 1)).toNat).blt m5.length) (cond (inb (fI (ps.getD t5.toNat []) 3) 10) (cond (ctsAt (cts Try.prog 91) (0 + (fI (ps.getD t5.toNat []) 3).toNat * 1) (cts Try.prog 3) && (0 + (IntKind.i64.wrap (t4 - fI (ps.getD t5.toNat []) 1)).toNat).blt m5.length) (cond (inb t4 t3 && (0 + t4.toNat).blt m5.length) (cond (inb (fI (ps.getD t5.toNat []) 2) 10) (cond (ctsAt (cts Try.prog 91) (0 + (fI (ps.getD t5.toNat []) 2).toNat * 1) (cts Try.prog 3) && (0 + t4.toNat).blt m5.length) (.go ⟨IntKind.i64.wrap (t5 + 1), m5.set (0 + t4.toNat) (setCs (m5.getD (0 + t4.toNat) []) (0 + (fI (ps.getD t5.toNat []) 2).toNat * 1) [AV.i IntKind.i64 (bmin 1000000000000001 (IntKind.i64.wrap (toI ((m5.getD (0 + t4.toNat) []).getD (0 + (fI (ps.getD t5.toNat []) 2).toNat * 1) AV.u) + toI ((m5.getD (0 + (IntKind.i64.wrap (t4 - fI (ps.getD t5.toNat []) 1)).toNat) []).getD (0 + (fI (ps.getD t5.toNat []) 3).toNat * 1) AV.u))))])⟩) (.bad)) (.bad)) (.bad)) (.bad)) (.bad)) (.bad)) (.bad)) (.bad)) (.bad)) (.go ⟨IntKind.i64.wrap (t5 + 1), m5⟩)) (.bad)) (.out (.x0 t5 m5))
noncomputable def o87aa_0 (ra : Int) (rb : Int) (rc : Int) (ps : List (List AV)) (t3 : Nat) (t4 : Int) (t5 : Int) (m5 : List (List AV)) : St :=
  { t := [(1, .rp [.int .i64, .int .i64, .int .i64, .sl 31] [.i .i64 ra, .i .i64 rb, .i .i64 rc, .rs 31 ps] 0), (2, .nl), (3, .sl 5 0 t3), (4, .i .i64 t4), (5, .i .i64 t5)], m := [(0, .dead), (1, .dead), (2, .dead), (3, .dead), (4, .dead), (5, .row 91 m5)], nx := 6, nt := 64 }
noncomputable def ou87aa (ra : Int) (rb : Int) (rc : Int) (ps : List (List AV)) (t3 : Nat) (t4 : Int) : T87aa → Ex × St
  | .x0 t5 m5 => (.ext 2, o87aa_0 ra rb rc ps t3 t4 t5 m5)
noncomputable def r87aa (ra : Int) (rb : Int) (rc : Int) (ps : List (List AV)) (t3 : Nat) (t4 : Int) (t5 : Int) (m5 : List (List AV)) : Option T87aa := run (fun x => stp87aa ra rb rc ps t3 t4 x.t5 x.m5) (⟨t5, m5⟩ : S87aa)
noncomputable def i87aa_0 (ra : Int) (rb : Int) (rc : Int) (ps : List (List AV)) (t3 : Nat) (t4 : Int) (t5 : Int) (m5 : List (List AV)) : Bool := match r87aa ra rb rc ps t3 t4 t5 m5 with
  | some (.x0 _ _) => true
  | _ => false
noncomputable def v87aa_0_t5 (ra : Int) (rb : Int) (rc : Int) (ps : List (List AV)) (t3 : Nat) (t4 : Int) (t5 : Int) (m5 : List (List AV)) : Int := match r87aa ra rb rc ps t3 t4 t5 m5 with
  | some (.x0 t5 _) => t5
  | _ => default
noncomputable def v87aa_0_m5 (ra : Int) (rb : Int) (rc : Int) (ps : List (List AV)) (t3 : Nat) (t4 : Int) (t5 : Int) (m5 : List (List AV)) : List (List AV) := match r87aa ra rb rc ps t3 t4 t5 m5 with
  | some (.x0 _ m5) => m5
  | _ => default
noncomputable def l87aa (st : St) : Option (List (Bool × Ex × St)) := match normW Try.prog [(1, none), (2, none), (3, none), (4, none), (5, none)] 6 st with
  | some ([.rp [.int .i64, .int .i64, .int .i64, .sl 31] [.i .i64 ra, .i .i64 rb, .i .i64 rc, .rs 31 ps] 0, .nl, .sl 5 0 t3, .i .i64 t4, .i .i64 t5], [(0, .dead), (1, .dead), (2, .dead), (3, .dead), (4, .dead), (5, .row 91 m5)], 6, 64) => some [(i87aa_0 ra rb rc ps t3 t4 t5 m5, .ext 2, o87aa_0 ra rb rc ps t3 t4 (v87aa_0_t5 ra rb rc ps t3 t4 t5 m5) (v87aa_0_m5 ra rb rc ps t3 t4 t5 m5))]
  | _ => none
structure S87a where
  t4 : Int
  m5 : List (List AV)
inductive T87a where
  | x0 (t4 : Int) (m5 : List (List AV))
noncomputable def stp87a (ra : Int) (rb : Int) (rc : Int) (ps : List (List AV)) (t3 : Nat) (t4 : Int) (m5 : List (List AV)) : Lp S87a T87a :=
  cond (decide (t4 ≤ ra)) (cond (i87aa_0 ra rb rc ps t3 t4 0 m5) (.go ⟨IntKind.i64.wrap (t4 + 1), v87aa_0_m5 ra rb rc ps t3 t4 0 m5⟩) (.bad)) (.out (.x0 t4 m5))
noncomputable def o87a_0 (ra : Int) (rb : Int) (rc : Int) (ps : List (List AV)) (t3 : Nat) (t4 : Int) (m5 : List (List AV)) : St :=
  { t := [(1, .rp [.int .i64, .int .i64, .int .i64, .sl 31] [.i .i64 ra, .i .i64 rb, .i .i64 rc, .rs 31 ps] 0), (2, .nl), (3, .sl 5 0 t3), (4, .i .i64 t4)], m := [(0, .dead), (1, .dead), (2, .dead), (3, .dead), (4, .dead), (5, .row 91 m5)], nx := 6, nt := 64 }
noncomputable def ou87a (ra : Int) (rb : Int) (rc : Int) (ps : List (List AV)) (t3 : Nat) : T87a → Ex × St
  | .x0 t4 m5 => (.ext 0, o87a_0 ra rb rc ps t3 t4 m5)
noncomputable def r87a (ra : Int) (rb : Int) (rc : Int) (ps : List (List AV)) (t3 : Nat) (t4 : Int) (m5 : List (List AV)) : Option T87a := run (fun x => stp87a ra rb rc ps t3 x.t4 x.m5) (⟨t4, m5⟩ : S87a)
noncomputable def i87a_0 (ra : Int) (rb : Int) (rc : Int) (ps : List (List AV)) (t3 : Nat) (t4 : Int) (m5 : List (List AV)) : Bool := match r87a ra rb rc ps t3 t4 m5 with
  | some (.x0 _ _) => true
  | _ => false
noncomputable def v87a_0_t4 (ra : Int) (rb : Int) (rc : Int) (ps : List (List AV)) (t3 : Nat) (t4 : Int) (m5 : List (List AV)) : Int := match r87a ra rb rc ps t3 t4 m5 with
  | some (.x0 t4 _) => t4
  | _ => default
noncomputable def v87a_0_m5 (ra : Int) (rb : Int) (rc : Int) (ps : List (List AV)) (t3 : Nat) (t4 : Int) (m5 : List (List AV)) : List (List AV) := match r87a ra rb rc ps t3 t4 m5 with
  | some (.x0 _ m5) => m5
  | _ => default
noncomputable def l87a (st : St) : Option (List (Bool × Ex × St)) := match normW Try.prog [(1, none), (2, none), (3, none), (4, none)] 6 st with
  | some ([.rp [.int .i64, .int .i64, .int .i64, .sl 31] [.i .i64 ra, .i .i64 rb, .i .i64 rc, .rs 31 ps] 0, .nl, .sl 5 0 t3, .i .i64 t4], [(0, .dead), (1, .dead), (2, .dead), (3, .dead), (4, .dead), (5, .row 91 m5)], 6, 64) => some [(i87a_0 ra rb rc ps t3 t4 m5, .ext 0, o87a_0 ra rb rc ps t3 (v87a_0_t4 ra rb rc ps t3 t4 m5) (v87a_0_m5 ra rb rc ps t3 t4 m5))]
  | _ => none
noncomputable def L87 : LSpec := fun p st => match p with
  | [false, true, false, false, true, false, false, true, false, true, true, true] => l87aa st
  | [false, true, false, true, true, true] => l87a st
  | _ => none
theorem is87aa_0 (ra : Int) (rb : Int) (rc : Int) (ps : List (List AV)) (t3 : Nat) (t4 : Int) (t5 : Int) (m5 : List (List AV)) (h : i87aa_0 ra rb rc ps t3 t4 t5 m5 = true) : r87aa ra rb rc ps t3 t4 t5 m5 = some (.x0 (v87aa_0_t5 ra rb rc ps t3 t4 t5 m5) (v87aa_0_m5 ra rb rc ps t3 t4 t5 m5)) := by
  unfold i87aa_0 at h
  unfold v87aa_0_t5 v87aa_0_m5
  generalize r87aa ra rb rc ps t3 t4 t5 m5 = r at h ⊢
  rcases r with _ | y
  · cases h
  · cases y <;> first | rfl | cases h
theorem round87aa (ra : Int) (rb : Int) (rc : Int) (ps : List (List AV)) (t3 : Nat) (t4 : Int) (t5 : Int) (m5 : List (List AV)) : round Try.prog Se (ro 87) L87 lp87aa [false, true, false, false, true, false, false, true, false, true, true, true] [(1, none), (2, none), (3, none), (4, none), (5, none)] 6 (s87aa ra rb rc ps t3 t4 t5 m5) =
    cond (decide (t5 < (↑ps.length : Int))) (cond (inb t5 ps.length) (cond (decide (fI (ps.getD t5.toNat []) 1 ≤ t4)) (cond (inb t4 t3 && (0 + t4.toNat).blt m5.length) (cond (inb (fI (ps.getD t5.toNat []) 2) 10) (cond (ctsAt (cts Try.prog 91) (0 + (fI (ps.getD t5.toNat []) 2).toNat * 1) (cts Try.prog 3) && (0 + t4.toNat).blt m5.length) (cond (inb (IntKind.i64.wrap (t4 - fI (ps.getD t5.toNat []) 1)) t3 && (0 + (IntKind.i64.wrap (t4 - fI (ps.getD t5.toNat []) 1)).toNat).blt m5.length) (cond (inb (fI (ps.getD t5.toNat []) 3) 10) (cond (ctsAt (cts Try.prog 91) (0 + (fI (ps.getD t5.toNat []) 3).toNat * 1) (cts Try.prog 3) && (0 + (IntKind.i64.wrap (t4 - fI (ps.getD t5.toNat []) 1)).toNat).blt m5.length) (cond (inb t4 t3 && (0 + t4.toNat).blt m5.length) (cond (inb (fI (ps.getD t5.toNat []) 2) 10) (cond (ctsAt (cts Try.prog 91) (0 + (fI (ps.getD t5.toNat []) 2).toNat * 1) (cts Try.prog 3) && (0 + t4.toNat).blt m5.length) (some (.nrm, s87aa ra rb rc ps t3 t4 (IntKind.i64.wrap (t5 + 1)) (m5.set (0 + t4.toNat) (setCs (m5.getD (0 + t4.toNat) []) (0 + (fI (ps.getD t5.toNat []) 2).toNat * 1) [AV.i IntKind.i64 (bmin 1000000000000001 (IntKind.i64.wrap (toI ((m5.getD (0 + t4.toNat) []).getD (0 + (fI (ps.getD t5.toNat []) 2).toNat * 1) AV.u) + toI ((m5.getD (0 + (IntKind.i64.wrap (t4 - fI (ps.getD t5.toNat []) 1)).toNat) []).getD (0 + (fI (ps.getD t5.toNat []) 3).toNat * 1) AV.u))))])))) (none)) (none)) (none)) (none)) (none)) (none)) (none)) (none)) (none)) (some (.nrm, s87aa ra rb rc ps t3 t4 (IntKind.i64.wrap (t5 + 1)) m5))) (none)) (some (.ext 2, o87aa_0 ra rb rc ps t3 t4 t5 m5)) := by kernel_rfl
theorem rnd87aa (ra : Int) (rb : Int) (rc : Int) (ps : List (List AV)) (t3 : Nat) (t4 : Int) (x : S87aa) : round Try.prog Se (ro 87) L87 lp87aa [false, true, false, false, true, false, false, true, false, true, true, true] [(1, none), (2, none), (3, none), (4, none), (5, none)] 6 ((fun x => s87aa ra rb rc ps t3 t4 x.t5 x.m5) x) = toR (fun x => s87aa ra rb rc ps t3 t4 x.t5 x.m5) (ou87aa ra rb rc ps t3 t4) (stp87aa ra rb rc ps t3 t4 x.t5 x.m5) := by
  refine (round87aa _ _ _ _ _ _ _ _ ).trans ?_
  unfold stp87aa
  simp only [toR_cond]
  rfl
theorem lok87aa {st : St} {outs : List (Bool × Ex × St)} {e : Ex} {s : St} (hl : l87aa st = some outs) (hch : Chosen outs e s) :
    ∃ keep nb, 0 ≤ nb ∧ LB Try.prog Se (ro 87) L87 lp87aa [false, true, false, false, true, false, false, true, false, true, true, true] keep nb st e s := by
  unfold l87aa at hl
  split at hl
  · rename_i ra rb rc ps t3 t4 t5 m5 hno
    cases hl
    have hno := normW_norm hno
    refine ⟨_, _, ?_, .enter hno ?_⟩
    · decide
    have main := fun y h => LB_run (x := (⟨t5, m5⟩ : S87aa)) (y := y) (nb := 6) (fun y => by cases y <;> simp [ou87aa]) (rnd87aa ra rb rc ps t3 t4) h
    obtain ⟨x, hx, hg, rfl, rfl⟩ := chosen_any hch
    simp only [List.mem_cons, List.not_mem_nil, or_false] at hx
    subst hx
    exact main _ (is87aa_0 ra rb rc ps t3 t4 t5 m5 hg)
  · cases hl
theorem is87a_0 (ra : Int) (rb : Int) (rc : Int) (ps : List (List AV)) (t3 : Nat) (t4 : Int) (m5 : List (List AV)) (h : i87a_0 ra rb rc ps t3 t4 m5 = true) : r87a ra rb rc ps t3 t4 m5 = some (.x0 (v87a_0_t4 ra rb rc ps t3 t4 m5) (v87a_0_m5 ra rb rc ps t3 t4 m5)) := by
  unfold i87a_0 at h
  unfold v87a_0_t4 v87a_0_m5
  generalize r87a ra rb rc ps t3 t4 m5 = r at h ⊢
  rcases r with _ | y
  · cases h
  · cases y <;> first | rfl | cases h
theorem round87a (ra : Int) (rb : Int) (rc : Int) (ps : List (List AV)) (t3 : Nat) (t4 : Int) (m5 : List (List AV)) : round Try.prog Se (ro 87) L87 lp87a [false, true, false, true, true, true] [(1, none), (2, none), (3, none), (4, none)] 6 (s87a ra rb rc ps t3 t4 m5) =
    cond (decide (t4 ≤ ra)) (cond (i87aa_0 ra rb rc ps t3 t4 0 m5) (some (.nrm, s87a ra rb rc ps t3 (IntKind.i64.wrap (t4 + 1)) (v87aa_0_m5 ra rb rc ps t3 t4 0 m5))) (none)) (some (.ext 0, o87a_0 ra rb rc ps t3 t4 m5)) := by kernel_rfl
theorem rnd87a (ra : Int) (rb : Int) (rc : Int) (ps : List (List AV)) (t3 : Nat) (x : S87a) : round Try.prog Se (ro 87) L87 lp87a [false, true, false, true, true, true] [(1, none), (2, none), (3, none), (4, none)] 6 ((fun x => s87a ra rb rc ps t3 x.t4 x.m5) x) = toR (fun x => s87a ra rb rc ps t3 x.t4 x.m5) (ou87a ra rb rc ps t3) (stp87a ra rb rc ps t3 x.t4 x.m5) := by
  refine (round87a _ _ _ _ _ _ _ ).trans ?_
  unfold stp87a
  simp only [toR_cond]
  rfl
theorem lok87a {st : St} {outs : List (Bool × Ex × St)} {e : Ex} {s : St} (hl : l87a st = some outs) (hch : Chosen outs e s) :
    ∃ keep nb, 0 ≤ nb ∧ LB Try.prog Se (ro 87) L87 lp87a [false, true, false, true, true, true] keep nb st e s := by
  unfold l87a at hl
  split at hl
  · rename_i ra rb rc ps t3 t4 m5 hno
    cases hl
    have hno := normW_norm hno
    refine ⟨_, _, ?_, .enter hno ?_⟩
    · decide
    have main := fun y h => LB_run (x := (⟨t4, m5⟩ : S87a)) (y := y) (nb := 6) (fun y => by cases y <;> simp [ou87a]) (rnd87a ra rb rc ps t3) h
    obtain ⟨x, hx, hg, rfl, rfl⟩ := chosen_any hch
    simp only [List.mem_cons, List.not_mem_nil, or_false] at hx
    subst hx
    exact main _ (is87a_0 ra rb rc ps t3 t4 m5 hg)
  · cases hl
theorem L87_ok (q : Pl) (c : Code) (hq : locate c87 q.reverse = some (.loop c)) (st : St) (outs : List (Bool × Ex × St)) (e : Ex) (s : St) (hl : L87 q st = some outs) (hch : Chosen outs e s) :
    ∃ keep nb, 0 ≤ nb ∧ LB Try.prog Se (ro 87) L87 c q keep nb st e s := by
  unfold L87 at hl
  split at hl
  · have : locate c87 ([false, true, false, false, true, false, false, true, false, true, true, true] : Pl).reverse = some (.loop lp87aa) := by kernel_rfl
    rw [this] at hq
    cases hq
    exact lok87aa hl hch
  · have : locate c87 ([false, true, false, true, true, true] : Pl).reverse = some (.loop lp87a) := by kernel_rfl
    rw [this] at hq
    cases hq
    exact lok87a hl hch
  · cases hl
theorem lok87 : LOK Try.prog Se (ro 87) L87 0 false c87 [] :=
  lok_lo L87_ok c87 [] false (locate_nil _) (by kernel_rfl)
noncomputable def t87 (ra rb rc : Int) (ps : List (List AV)) : Tr ((List (List AV))) :=
  .cn (decide (IntKind.i64.wrap (ra + 1) = IntKind.i64.wrap (ra + 1)) && (decide (0 ≤ IntKind.i64.wrap (ra + 1)) && decide (IntKind.i64.wrap (ra + 1) * (↑80 : Int) ≤ 140737488355328) && decide (IntKind.i64.wrap (ra + 1) ≤ 9223372036854775807))) (.cn (inb 0 (IntKind.i64.wrap (ra + 1)).toNat && Nat.blt 0 (List.replicate (IntKind.i64.wrap (ra + 1)).toNat [AV.i IntKind.i64 0, AV.i IntKind.i64 0, AV.i IntKind.i64 0, AV.i IntKind.i64 0, AV.i IntKind.i64 0, AV.i IntKind.i64 0, AV.i IntKind.i64 0, AV.i IntKind.i64 0, AV.i IntKind.i64 0, AV.i IntKind.i64 0]).length) (.cn (inb rc 10) (.cn (ctsAt (cts Try.prog 91) (0 + rc.toNat * 1) (cts Try.prog 3) && Nat.blt 0 (List.replicate (IntKind.i64.wrap (ra + 1)).toNat [AV.i IntKind.i64 0, AV.i IntKind.i64 0, AV.i IntKind.i64 0, AV.i IntKind.i64 0, AV.i IntKind.i64 0, AV.i IntKind.i64 0, AV.i IntKind.i64 0, AV.i IntKind.i64 0, AV.i IntKind.i64 0, AV.i IntKind.i64 0]).length) (.cn (i87a_0 ra rb rc ps (IntKind.i64.wrap (ra + 1)).toNat 1 ((List.replicate (IntKind.i64.wrap (ra + 1)).toNat [AV.i IntKind.i64 0, AV.i IntKind.i64 0, AV.i IntKind.i64 0, AV.i IntKind.i64 0, AV.i IntKind.i64 0, AV.i IntKind.i64 0, AV.i IntKind.i64 0, AV.i IntKind.i64 0, AV.i IntKind.i64 0, AV.i IntKind.i64 0]).set 0 (setCs ((List.replicate (IntKind.i64.wrap (ra + 1)).toNat [AV.i IntKind.i64 0, AV.i IntKind.i64 0, AV.i IntKind.i64 0, AV.i IntKind.i64 0, AV.i IntKind.i64 0, AV.i IntKind.i64 0, AV.i IntKind.i64 0, AV.i IntKind.i64 0, AV.i IntKind.i64 0, AV.i IntKind.i64 0]).getD 0 []) (0 + rc.toNat * 1) [AV.i IntKind.i64 1]))) (.cn ((0 + (IntKind.i64.wrap (ra + 1)).toNat).ble (v87a_0_m5 ra rb rc ps (IntKind.i64.wrap (ra + 1)).toNat 1 ((List.replicate (IntKind.i64.wrap (ra + 1)).toNat [AV.i IntKind.i64 0, AV.i IntKind.i64 0, AV.i IntKind.i64 0, AV.i IntKind.i64 0, AV.i IntKind.i64 0, AV.i IntKind.i64 0, AV.i IntKind.i64 0, AV.i IntKind.i64 0, AV.i IntKind.i64 0, AV.i IntKind.i64 0]).set 0 (setCs ((List.replicate (IntKind.i64.wrap (ra + 1)).toNat [AV.i IntKind.i64 0, AV.i IntKind.i64 0, AV.i IntKind.i64 0, AV.i IntKind.i64 0, AV.i IntKind.i64 0, AV.i IntKind.i64 0, AV.i IntKind.i64 0, AV.i IntKind.i64 0, AV.i IntKind.i64 0, AV.i IntKind.i64 0]).getD 0 []) (0 + rc.toNat * 1) [AV.i IntKind.i64 1]))).length) (.lf (bif (IntKind.i64.wrap (ra + 1)).toNat.beq (v87a_0_m5 ra rb rc ps (IntKind.i64.wrap (ra + 1)).toNat 1 ((List.replicate (IntKind.i64.wrap (ra + 1)).toNat [AV.i IntKind.i64 0, AV.i IntKind.i64 0, AV.i IntKind.i64 0, AV.i IntKind.i64 0, AV.i IntKind.i64 0, AV.i IntKind.i64 0, AV.i IntKind.i64 0, AV.i IntKind.i64 0, AV.i IntKind.i64 0, AV.i IntKind.i64 0]).set 0 (setCs ((List.replicate (IntKind.i64.wrap (ra + 1)).toNat [AV.i IntKind.i64 0, AV.i IntKind.i64 0, AV.i IntKind.i64 0, AV.i IntKind.i64 0, AV.i IntKind.i64 0, AV.i IntKind.i64 0, AV.i IntKind.i64 0, AV.i IntKind.i64 0, AV.i IntKind.i64 0, AV.i IntKind.i64 0]).getD 0 []) (0 + rc.toNat * 1) [AV.i IntKind.i64 1]))).length then v87a_0_m5 ra rb rc ps (IntKind.i64.wrap (ra + 1)).toNat 1 ((List.replicate (IntKind.i64.wrap (ra + 1)).toNat [AV.i IntKind.i64 0, AV.i IntKind.i64 0, AV.i IntKind.i64 0, AV.i IntKind.i64 0, AV.i IntKind.i64 0, AV.i IntKind.i64 0, AV.i IntKind.i64 0, AV.i IntKind.i64 0, AV.i IntKind.i64 0, AV.i IntKind.i64 0]).set 0 (setCs ((List.replicate (IntKind.i64.wrap (ra + 1)).toNat [AV.i IntKind.i64 0, AV.i IntKind.i64 0, AV.i IntKind.i64 0, AV.i IntKind.i64 0, AV.i IntKind.i64 0, AV.i IntKind.i64 0, AV.i IntKind.i64 0, AV.i IntKind.i64 0, AV.i IntKind.i64 0, AV.i IntKind.i64 0]).getD 0 []) (0 + rc.toNat * 1) [AV.i IntKind.i64 1])) else List.take (IntKind.i64.wrap (ra + 1)).toNat (List.drop 0 (v87a_0_m5 ra rb rc ps (IntKind.i64.wrap (ra + 1)).toNat 1 ((List.replicate (IntKind.i64.wrap (ra + 1)).toNat [AV.i IntKind.i64 0, AV.i IntKind.i64 0, AV.i IntKind.i64 0, AV.i IntKind.i64 0, AV.i IntKind.i64 0, AV.i IntKind.i64 0, AV.i IntKind.i64 0, AV.i IntKind.i64 0, AV.i IntKind.i64 0, AV.i IntKind.i64 0]).set 0 (setCs ((List.replicate (IntKind.i64.wrap (ra + 1)).toNat [AV.i IntKind.i64 0, AV.i IntKind.i64 0, AV.i IntKind.i64 0, AV.i IntKind.i64 0, AV.i IntKind.i64 0, AV.i IntKind.i64 0, AV.i IntKind.i64 0, AV.i IntKind.i64 0, AV.i IntKind.i64 0, AV.i IntKind.i64 0]).getD 0 []) (0 + rc.toNat * 1) [AV.i IntKind.i64 1])))))) (.nn)) (.nn)) (.nn)) (.nn)) (.nn)) (.nn)
noncomputable def g87 (ra rb rc : Int) (ps : List (List AV)) : Bool := (t87 ra rb rc ps).g
noncomputable def w87_0 (ra rb rc : Int) (ps : List (List AV)) : List (List AV) := (t87 ra rb rc ps).val
theorem eq87 (ra rb rc : Int) (ps : List (List AV)) : evF Try.prog Se (ro 87) L87 Try.f87 [.agg [.i .i64 ra, .i .i64 rb, .i .i64 rc, .rs 31 ps]] = (t87 ra rb rc ps).opt (fun (x : (List (List AV))) => (.rs 91 x : AV)) := by kernel_rfl
theorem con87 (ra rb rc : Int) (ps : List (List AV)) (h : g87 ra rb rc ps = true) : Con Try.prog 87 [.agg [.i .i64 ra, .i .i64 rb, .i .i64 rc, .rs 31 ps]] [] (.rs 91 (w87_0 ra rb rc ps)) [] :=
  con_of Se_ok mixed Try.func87 (c := c87) rfl (names 87 _ Try.func87) lok87 ((eq87 ra rb rc ps).trans (Tr.sound _ _ h))
noncomputable def e87 (args : List AV) (rows : List Blk) : Option (Bool × AV × List Blk) := match args, rows with
  | [.agg [.i .i64 ra, .i .i64 rb, .i .i64 rc, .rs 31 ps]], [] => some (g87 ra rb rc ps, .rs 91 (w87_0 ra rb rc ps), [])
  | _, _ => none
theorem e87_ok (args : List AV) (rows : List Blk) (pre : Bool) (v : AV) (rows' : List Blk) (h : e87 args rows = some (pre, v, rows')) (hp : pre = true) : Con Try.prog 87 args rows v rows' := by
  unfold e87 at h
  split at h
  · cases h; exact con87 _ _ _ _ hp
  · cases h
-- SPEC 87
end Go.Proofs.Ytgifjphinkbcaaa

set_option maxRecDepth 100000
set_option linter.unusedVariables false
namespace Go.Proofs.Ytgifjphinkbcaaa
open Go Go.Ev
noncomputable def Sg : Ev.Spec := insS 87 e87 (insS 50 e50 (Sf))
theorem Sg_ok : SpecOK Try.prog Sg := insS_ok e87_ok (insS_ok e50_ok (Sf_ok))
end Go.Proofs.Ytgifjphinkbcaaa

set_option maxRecDepth 100000
set_option linter.unusedVariables false
namespace Go.Proofs.Ytgifjphinkbcaaa
open Go Go.Ev

/-! ### Ways -/
noncomputable def c20 : Code := match Try.f20.body with | some c => c | _ => .skip
theorem lok20 : LOK Try.prog Sg (ro 20) (fun _ _ => none) 0 false c20 [] :=
  lok_lo (fun _ _ _ _ _ _ _ h _ => by cases h) c20 [] false (locate_nil _) (by kernel_rfl)
noncomputable def t20 (ra rb rc : Int) (ps : List (List AV)) : Tr ((Int) × (Int)) :=
  .cn (g50 ra rb rc ps) (.cn (w50_1 ra rb rc ps != 0) (.lf (0, w50_1 ra rb rc ps)) (.cn (g51 (w50_0 ra rb rc ps) (w52_0 ra rb rc ps) (w52_1 ra rb rc ps)) (.lf (w51_0 (w50_0 ra rb rc ps) (w52_0 ra rb rc ps) (w52_1 ra rb rc ps), 0)) (.nn))) (.nn)
noncomputable def g20 (ra rb rc : Int) (ps : List (List AV)) : Bool := (t20 ra rb rc ps).g
noncomputable def w20_0 (ra rb rc : Int) (ps : List (List AV)) : Int := (t20 ra rb rc ps).val.1
noncomputable def w20_1 (ra rb rc : Int) (ps : List (List AV)) : Int := (t20 ra rb rc ps).val.2
theorem eq20 (ra rb rc : Int) (ps : List (List AV)) : evF Try.prog Sg (ro 20) (fun _ _ => none) Try.f20 [.agg [.i .i64 ra, .i .i64 rb, .i .i64 rc, .rs 31 ps]] = (t20 ra rb rc ps).opt (fun (x : (Int) × (Int)) => (.tup [.i .i64 x.1, .i .i64 x.2] : AV)) := by kernel_rfl
theorem con20 (ra rb rc : Int) (ps : List (List AV)) (h : g20 ra rb rc ps = true) : Con Try.prog 20 [.agg [.i .i64 ra, .i .i64 rb, .i .i64 rc, .rs 31 ps]] [] (.tup [.i .i64 (w20_0 ra rb rc ps), .i .i64 (w20_1 ra rb rc ps)]) [] :=
  con_of Sg_ok mixed Try.func20 (c := c20) rfl (names 20 _ Try.func20) lok20 ((eq20 ra rb rc ps).trans (Tr.sound _ _ h))
noncomputable def e20 (args : List AV) (rows : List Blk) : Option (Bool × AV × List Blk) := match args, rows with
  | [.agg [.i .i64 ra, .i .i64 rb, .i .i64 rc, .rs 31 ps]], [] => some (g20 ra rb rc ps, .tup [.i .i64 (w20_0 ra rb rc ps), .i .i64 (w20_1 ra rb rc ps)], [])
  | _, _ => none
theorem e20_ok (args : List AV) (rows : List Blk) (pre : Bool) (v : AV) (rows' : List Blk) (h : e20 args rows = some (pre, v, rows')) (hp : pre = true) : Con Try.prog 20 args rows v rows' := by
  unfold e20 at h
  split at h
  · cases h; exact con20 _ _ _ _ hp
  · cases h
-- SPEC 20
end Go.Proofs.Ytgifjphinkbcaaa
