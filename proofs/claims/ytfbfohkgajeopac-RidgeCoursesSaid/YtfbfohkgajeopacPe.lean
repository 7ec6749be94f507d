/-
  The evaluator, its soundness, and the functions that several laws reach: what they compute, for all arguments; no conditions.
-/
import Derived.Test.YtfbfohkgajeopacPd
import Derived.Test.YtfbfohkgajeopacPc
import Derived.Test.YtfbfohkgajeopacPa
set_option linter.unusedVariables false
set_option maxRecDepth 100000
set_option maxHeartbeats 0
set_option linter.unusedVariables false
namespace Go.Proofs.Ytfbfohkgajeopac
open Go Go.Ev

noncomputable def c81 : Code := match Try.f38.body with | some c => c | _ => .skip
noncomputable def lp81a : Code := loopAt c81 [true, true, true, false, true, false]
noncomputable def s81a (ra rb rc : Int) (ps : List (List AV)) (t3 : Nat) (t4 : Int) (m5 : List (List AV)) : St :=
  { t := [(1, .rp [.int .i64, .int .i64, .int .i64, .sl 39] [.i .i64 ra, .i .i64 rb, .i .i64 rc, .rs 39 ps] 0), (2, .nl), (3, .sl 5 0 t3), (4, .i .i64 t4)], m := [(0, .dead), (1, .dead), (2, .dead), (3, .dead), (4, .dead), (5, .row 94 m5)], nx := 6, nt := 66 }
noncomputable def lp81aa : Code := loopAt c81 [true, true, true, false, true, false, false, true, false, false, true, false]
noncomputable def s81aa (ra rb rc : Int) (ps : List (List AV)) (t3 : Nat) (t4 : Int) (t25 : List (List AV)) (t26 t27 : Int) (m5 : List (List AV)) : St :=
  { t := [(1, .rp [.int .i64, .int .i64, .int .i64, .sl 39] [.i .i64 ra, .i .i64 rb, .i .i64 rc, .rs 39 ps] 0), (2, .nl), (3, .sl 5 0 t3), (4, .i .i64 t4), (25, .rs 39 t25), (26, .i .i64 t26), (27, .i .i64 t27)], m := [(0, .dead), (1, .dead), (2, .dead), (3, .dead), (4, .dead), (5, .row 94 m5)], nx := 6, nt := 66 }
structure S81aa where
  t27 : Int
  m5 : List (List AV)
inductive T81aa where
  | x0 (t27 : Int) (m5 : List (List AV))
noncomputable def stp81aa (ra rb rc : Int) (ps : List (List AV)) (t3 : Nat) (t4 : Int) (t25 : List (List AV)) (t26 t27 : Int) (m5 : List (List AV)) : Lp S81aa T81aa :=
  cond (decide (t27 < t26)) (cond (inb t27 t25.length) (cond (g71 t4 (fI (t25.getD t27.toNat []) 2) (fS (t25.getD t27.toNat []) 0) (fI (t25.getD t27.toNat []) 1) (fI (t25.getD t27.toNat []) 2) (fI (t25.getD t27.toNat []) 3) (fI (t25.getD t27.toNat []) 4)) (cond (w71_2 t4 (fI (t25.getD t27.toNat []) 2) (fS (t25.getD t27.toNat []) 0) (fI (t25.getD t27.toNat []) 1) (fI (t25.getD t27.toNat []) 2) (fI (t25.getD t27.toNat []) 3) (fI (t25.getD t27.toNat []) 4)) (cond (inb t4 t3 && (0 + t4.toNat).blt m5.length) (cond (inb (fI (t25.getD t27.toNat []) 2) 10) (cond (ctsAt (cts Try.prog 94) (0 + (fI (t25.getD t27.toNat []) 2).toNat * 1) (cts Try.prog 3) && (0 + t4.toNat).blt m5.length) (cond (inb (w71_0 t4 (fI (t25.getD t27.toNat []) 2) (fS (t25.getD t27.toNat []) 0) (fI (t25.getD t27.toNat []) 1) (fI (t25.getD t27.toNat []) 2) (fI (t25.getD t27.toNat []) 3) (fI (t25.getD t27.toNat []) 4)) t3 && (0 + (w71_0 t4 (fI (t25.getD t27.toNat []) 2) (fS (t25.getD t27.toNat []) 0) (fI (t25.getD t27.toNat []) 1) (fI (t25.getD t27.toNat []) 2) (fI (t25.getD t27.toNat []) 3) (fI (t25.getD t27.toNat []) 4)).toNat).blt m5.length) (cond (inb (w71_1 t4 (fI (t25.getD t27.toNat []) 2) (fS (t25.getD t27.toNat []) 0) (fI (t25.getD t27.toNat []) 1) (fI (t25.getD t27.toNat []) 2) (fI (t25.getD t27.toNat []) 3) (fI (t25.getD t27.toNat []) 4)) 10) (cond (ctsAt (cts Try.prog 94) (0 + (w71_1 t4 (fI (t25.getD t27.toNat []) 2) (fS (t25.getD t27.toNat []) 0) (fI (t25.getD t27.toNat []) 1) (fI (t25.getD t27.toNat []) 2) (fI (t25.getD t27.toNat []) 3) (fI (t25.getD t27.toNat []) 4)).toNat * 1) (cts Try.prog 3) && (0 + (w71_0 t4 (fI (t25.getD t27.toNat []) 2) (fS (t25.getD t27.toNat []) 0) (fI (t25.getD t27.toNat []) 1) (fI (t25.getD t27.toNat []) 2) (fI (t25.getD t27.toNat []) 3) (fI (t25.getD t27.toNat []) 4)).toNat).blt m5.length) (cond (inb t4 t3 && (0 + t4.toNat).blt m5.length) (cond (inb (fI (t25.getD t27.toNat []) 2) 10) (cond (ctsAt (cts Try.prog 94) (0 + (fI (t25.getD t27.toNat []) 2).toNat * 1) (cts Try.prog 3) && (0 + t4.toNat).blt m5.length) (.go ⟨IntKind.i64.wrap (t27 + 1), m5.set (0 + t4.toNat) (setCs (m5.getD (0 + t4.toNat) []) (0 + (fI (t25.getD t27.toNat []) 2).toNat * 1) [AV.i IntKind.i64 (bmin (IntKind.i64.wrap (toI ((m5.getD (0 + t4.toNat) []).getD (0 + (fI (t25.getD t27.toNat []) 2).toNat * 1) AV.u) + toI ((m5.getD (0 + (w71_0 t4 (fI (t25.getD t27.toNat []) 2) (fS (t25.getD t27.toNat []) 0) (fI (t25.getD t27.toNat []) 1) (fI (t25.getD t27.toNat []) 2) (fI (t25.getD t27.toNat []) 3) (fI (t25.getD t27.toNat []) 4)).toNat) []).getD (0 + (w71_1 t4 (fI (t25.getD t27.toNat []) 2) (fS (t25.getD t27.toNat []) 0) (fI (t25.getD t27.toNat []) 1) (fI (t25.getD t27.toNat []) 2) (fI (t25.getD t27.toNat []) 3) (fI (t25.getD t27.toNat []) 4)).toNat * 1) AV.u))) 1000000000000001)])⟩) (.bad)) (.bad)) (.bad)) (.bad)) (.bad)) (.bad)) (.bad)) (.bad)) (.bad)) (.go ⟨IntKind.i64.wrap (t27 + 1), m5⟩)) (.bad)) (.bad)) (.out (.x0 t27 m5))
noncomputable def o81aa_0 (ra rb rc : Int) (ps : List (List AV)) (t3 : Nat) (t4 : Int) (t25 : List (List AV)) (t26 t27 : Int) (m5 : List (List AV)) : St :=
  { t := [(1, .rp [.int .i64, .int .i64, .int .i64, .sl 39] [.i .i64 ra, .i .i64 rb, .i .i64 rc, .rs 39 ps] 0), (2, .nl), (3, .sl 5 0 t3), (4, .i .i64 t4), (25, .rs 39 t25), (26, .i .i64 t26), (27, .i .i64 t27)], m := [(0, .dead), (1, .dead), (2, .dead), (3, .dead), (4, .dead), (5, .row 94 m5)], nx := 6, nt := 66 }
noncomputable def ou81aa (ra rb rc : Int) (ps : List (List AV)) (t3 : Nat) (t4 : Int) (t25 : List (List AV)) (t26 : Int) : T81aa → Ex × St
  | .x0 t27 m5 => (.ext 2, o81aa_0 ra rb rc ps t3 t4 t25 t26 t27 m5)
noncomputable def r81aa (ra rb rc : Int) (ps : List (List AV)) (t3 : Nat) (t4 : Int) (t25 : List (List AV)) (t26 t27 : Int) (m5 : List (List AV)) : Option T81aa := run (fun x => stp81aa ra rb rc ps t3 t4 t25 t26 x.t27 x.m5) (⟨t27, m5⟩ : S81aa)
noncomputable def i81aa_0 (ra rb rc : Int) (ps : List (List AV)) (t3 : Nat) (t4 : Int) (t25 : List (List AV)) (t26 t27 : Int) (m5 : List (List AV)) : Bool := match r81aa ra rb rc ps t3 t4 t25 t26 t27 m5 with
  | some (.x0 _ _) => true
  | _ => false
noncomputable def v81aa_0_t27 (ra rb rc : Int) (ps : List (List AV)) (t3 : Nat) (t4 : Int) (t25 : List (List AV)) (t26 t27 : Int) (m5 : List (List AV)) : Int := match r81aa ra rb rc ps t3 t4 t25 t26 t27 m5 with
  | some (.x0 t27 _) => t27
  | _ => default
noncomputable def v81aa_0_m5 (ra rb rc : Int) (ps : List (List AV)) (t3 : Nat) (t4 : Int) (t25 : List (List AV)) (t26 t27 : Int) (m5 : List (List AV)) : List (List AV) := match r81aa ra rb rc ps t3 t4 t25 t26 t27 m5 with
  | some (.x0 _ m5) => m5
  | _ => default
noncomputable def l81aa (st : St) : Option (List (Bool × Ex × St)) := match normW Try.prog [(1, none), (2, none), (3, none), (4, none), (25, none), (26, none), (27, none)] 6 st with
  | some ([.rp [.int .i64, .int .i64, .int .i64, .sl 39] [.i .i64 ra, .i .i64 rb, .i .i64 rc, .rs 39 ps] 0, .nl, .sl 5 0 t3, .i .i64 t4, .rs 39 t25, .i .i64 t26, .i .i64 t27], [(0, .dead), (1, .dead), (2, .dead), (3, .dead), (4, .dead), (5, .row 94 m5)], 6, 66) => some [(i81aa_0 ra rb rc ps t3 t4 t25 t26 t27 m5, .ext 2, o81aa_0 ra rb rc ps t3 t4 t25 t26 (v81aa_0_t27 ra rb rc ps t3 t4 t25 t26 t27 m5) (v81aa_0_m5 ra rb rc ps t3 t4 t25 t26 t27 m5))]
  | _ => none
structure S81a where
  t4 : Int
  m5 : List (List AV)
inductive T81a where
  | x0 (t4 : Int) (m5 : List (List AV))
noncomputable def stp81a (ra rb rc : Int) (ps : List (List AV)) (t3 : Nat) (t4 : Int) (m5 : List (List AV)) : Lp S81a T81a :=
  cond (decide (t4 ≤ ra)) (cond (i81aa_0 ra rb rc ps t3 t4 ps (↑ps.length : Int) 0 m5) (.go ⟨IntKind.i64.wrap (t4 + 1), v81aa_0_m5 ra rb rc ps t3 t4 ps (↑ps.length : Int) 0 m5⟩) (.bad)) (.out (.x0 t4 m5))
noncomputable def o81a_0 (ra rb rc : Int) (ps : List (List AV)) (t3 : Nat) (t4 : Int) (m5 : List (List AV)) : St :=
  { t := [(1, .rp [.int .i64, .int .i64, .int .i64, .sl 39] [.i .i64 ra, .i .i64 rb, .i .i64 rc, .rs 39 ps] 0), (2, .nl), (3, .sl 5 0 t3), (4, .i .i64 t4)], m := [(0, .dead), (1, .dead), (2, .dead), (3, .dead), (4, .dead), (5, .row 94 m5)], nx := 6, nt := 66 }
noncomputable def ou81a (ra rb rc : Int) (ps : List (List AV)) (t3 : Nat) : T81a → Ex × St
  | .x0 t4 m5 => (.ext 0, o81a_0 ra rb rc ps t3 t4 m5)
noncomputable def r81a (ra rb rc : Int) (ps : List (List AV)) (t3 : Nat) (t4 : Int) (m5 : List (List AV)) : Option T81a := run (fun x => stp81a ra rb rc ps t3 x.t4 x.m5) (⟨t4, m5⟩ : S81a)
noncomputable def i81a_0 (ra rb rc : Int) (ps : List (List AV)) (t3 : Nat) (t4 : Int) (m5 : List (List AV)) : Bool := match r81a ra rb rc ps t3 t4 m5 with
  | some (.x0 _ _) => true
  | _ => false
noncomputable def v81a_0_t4 (ra rb rc : Int) (ps : List (List AV)) (t3 : Nat) (t4 : Int) (m5 : List (List AV)) : Int := match r81a ra rb rc ps t3 t4 m5 with
  | some (.x0 t4 _) => t4
  | _ => default
noncomputable def v81a_0_m5 (ra rb rc : Int) (ps : List (List AV)) (t3 : Nat) (t4 : Int) (m5 : List (List AV)) : List (List AV) := match r81a ra rb rc ps t3 t4 m5 with
  | some (.x0 _ m5) => m5
  | _ => default
noncomputable def l81a (st : St) : Option (List (Bool × Ex × St)) := match normW Try.prog [(1, none), (2, none), (3, none), (4, none)] 6 st with
  | some ([.rp [.int .i64, .int .i64, .int .i64, .sl 39] [.i .i64 ra, .i .i64 rb, .i .i64 rc, .rs 39 ps] 0, .nl, .sl 5 0 t3, .i .i64 t4], [(0, .dead), (1, .dead), (2, .dead), (3, .dead), (4, .dead), (5, .row 94 m5)], 6, 66) => some [(i81a_0 ra rb rc ps t3 t4 m5, .ext 0, o81a_0 ra rb rc ps t3 (v81a_0_t4 ra rb rc ps t3 t4 m5) (v81a_0_m5 ra rb rc ps t3 t4 m5))]
  | _ => none
noncomputable def L81 : LSpec := fun p st => match p with
  | [false, true, false, false, true, false, false, true, false, true, true, true] => l81aa st
  | [false, true, false, true, true, true] => l81a st
  | _ => none
theorem is81aa_0 (ra rb rc : Int) (ps : List (List AV)) (t3 : Nat) (t4 : Int) (t25 : List (List AV)) (t26 t27 : Int) (m5 : List (List AV)) (h : i81aa_0 ra rb rc ps t3 t4 t25 t26 t27 m5 = true) : r81aa ra rb rc ps t3 t4 t25 t26 t27 m5 = some (.x0 (v81aa_0_t27 ra rb rc ps t3 t4 t25 t26 t27 m5) (v81aa_0_m5 ra rb rc ps t3 t4 t25 t26 t27 m5)) := by
  unfold i81aa_0 at h
  unfold v81aa_0_t27 v81aa_0_m5
  generalize r81aa ra rb rc ps t3 t4 t25 t26 t27 m5 = r at h ⊢
  rcases r with _ | y
  · cases h
  · cases y <;> first | rfl | cases h
theorem round81aa (ra rb rc : Int) (ps : List (List AV)) (t3 : Nat) (t4 : Int) (t25 : List (List AV)) (t26 t27 : Int) (m5 : List (List AV)) : round Try.prog SS6 (ro 38) L81 lp81aa [false, true, false, false, true, false, false, true, false, true, true, true] [(1, none), (2, none), (3, none), (4, none), (25, none), (26, none), (27, none)] 6 (s81aa ra rb rc ps t3 t4 t25 t26 t27 m5) =
    cond (decide (t27 < t26)) (cond (inb t27 t25.length) (cond (g71 t4 (fI (t25.getD t27.toNat []) 2) (fS (t25.getD t27.toNat []) 0) (fI (t25.getD t27.toNat []) 1) (fI (t25.getD t27.toNat []) 2) (fI (t25.getD t27.toNat []) 3) (fI (t25.getD t27.toNat []) 4)) (cond (w71_2 t4 (fI (t25.getD t27.toNat []) 2) (fS (t25.getD t27.toNat []) 0) (fI (t25.getD t27.toNat []) 1) (fI (t25.getD t27.toNat []) 2) (fI (t25.getD t27.toNat []) 3) (fI (t25.getD t27.toNat []) 4)) (cond (inb t4 t3 && (0 + t4.toNat).blt m5.length) (cond (inb (fI (t25.getD t27.toNat []) 2) 10) (cond (ctsAt (cts Try.prog 94) (0 + (fI (t25.getD t27.toNat []) 2).toNat * 1) (cts Try.prog 3) && (0 + t4.toNat).blt m5.length) (cond (inb (w71_0 t4 (fI (t25.getD t27.toNat []) 2) (fS (t25.getD t27.toNat []) 0) (fI (t25.getD t27.toNat []) 1) (fI (t25.getD t27.toNat []) 2) (fI (t25.getD t27.toNat []) 3) (fI (t25.getD t27.toNat []) 4)) t3 && (0 + (w71_0 t4 (fI (t25.getD t27.toNat []) 2) (fS (t25.getD t27.toNat []) 0) (fI (t25.getD t27.toNat []) 1) (fI (t25.getD t27.toNat []) 2) (fI (t25.getD t27.toNat []) 3) (fI (t25.getD t27.toNat []) 4)).toNat).blt m5.length) (cond (inb (w71_1 t4 (fI (t25.getD t27.toNat []) 2) (fS (t25.getD t27.toNat []) 0) (fI (t25.getD t27.toNat []) 1) (fI (t25.getD t27.toNat []) 2) (fI (t25.getD t27.toNat []) 3) (fI (t25.getD t27.toNat []) 4)) 10) (cond (ctsAt (cts Try.prog 94) (0 + (w71_1 t4 (fI (t25.getD t27.toNat []) 2) (fS (t25.getD t27.toNat []) 0) (fI (t25.getD t27.toNat []) 1) (fI (t25.getD t27.toNat []) 2) (fI (t25.getD t27.toNat []) 3) (fI (t25.getD t27.toNat []) 4)).toNat * 1) (cts Try.prog 3) && (0 + (w71_0 t4 (fI (t25.getD t27.toNat []) 2) (fS (t25.getD t27.toNat []) 0) (fI (t25.getD t27.toNat []) 1) (fI (t25.getD t27.toNat []) 2) (fI (t25.getD t27.toNat []) 3) (fI (t25.getD t27.toNat []) 4)).toNat).blt m5.length) (cond (inb t4 t3 && (0 + t4.toNat).blt m5.length) (cond (inb (fI (t25.getD t27.toNat []) 2) 10) (cond (ctsAt (cts Try.prog 94) (0 + (fI (t25.getD t27.toNat []) 2).toNat * 1) (cts Try.prog 3) && (0 + t4.toNat).blt m5.length) (some (.nrm, s81aa ra rb rc ps t3 t4 t25 t26 (IntKind.i64.wrap (t27 + 1)) (m5.set (0 + t4.toNat) (setCs (m5.getD (0 + t4.toNat) []) (0 + (fI (t25.getD t27.toNat []) 2).toNat * 1) [AV.i IntKind.i64 (bmin (IntKind.i64.wrap (toI ((m5.getD (0 + t4.toNat) []).getD (0 + (fI (t25.getD t27.toNat []) 2).toNat * 1) AV.u) + toI ((m5.getD (0 + (w71_0 t4 (fI (t25.getD t27.toNat []) 2) (fS (t25.getD t27.toNat []) 0) (fI (t25.getD t27.toNat []) 1) (fI (t25.getD t27.toNat []) 2) (fI (t25.getD t27.toNat []) 3) (fI (t25.getD t27.toNat []) 4)).toNat) []).getD (0 + (w71_1 t4 (fI (t25.getD t27.toNat []) 2) (fS (t25.getD t27.toNat []) 0) (fI (t25.getD t27.toNat []) 1) (fI (t25.getD t27.toNat []) 2) (fI (t25.getD t27.toNat []) 3) (fI (t25.getD t27.toNat []) 4)).toNat * 1) AV.u))) 1000000000000001)])))) (none)) (none)) (none)) (none)) (none)) (none)) (none)) (none)) (none)) (some (.nrm, s81aa ra rb rc ps t3 t4 t25 t26 (IntKind.i64.wrap (t27 + 1)) m5))) (none)) (none)) (some (.ext 2, o81aa_0 ra rb rc ps t3 t4 t25 t26 t27 m5)) := by kernel_rfl
theorem rnd81aa (ra rb rc : Int) (ps : List (List AV)) (t3 : Nat) (t4 : Int) (t25 : List (List AV)) (t26 : Int) (x : S81aa) : round Try.prog SS6 (ro 38) L81 lp81aa [false, true, false, false, true, false, false, true, false, true, true, true] [(1, none), (2, none), (3, none), (4, none), (25, none), (26, none), (27, none)] 6 ((fun x => s81aa ra rb rc ps t3 t4 t25 t26 x.t27 x.m5) x) = toR (fun x => s81aa ra rb rc ps t3 t4 t25 t26 x.t27 x.m5) (ou81aa ra rb rc ps t3 t4 t25 t26) (stp81aa ra rb rc ps t3 t4 t25 t26 x.t27 x.m5) := by
  refine (round81aa _ _ _ _ _ _ _ _ _ _ ).trans ?_
  unfold stp81aa
  simp only [toR_cond]
  rfl
theorem lok81aa {st : St} {outs : List (Bool × Ex × St)} {e : Ex} {s : St} (hl : l81aa st = some outs) (hch : Chosen outs e s) :
    ∃ keep nb, 0 ≤ nb ∧ LB Try.prog SS6 (ro 38) L81 lp81aa [false, true, false, false, true, false, false, true, false, true, true, true] keep nb st e s := by
  unfold l81aa at hl
  split at hl
  · rename_i ra rb rc ps t3 t4 t25 t26 t27 m5 hno
    cases hl
    have hno := normW_norm hno
    refine ⟨_, _, ?_, .enter hno ?_⟩
    · decide
    have main := fun y h => LB_run (x := (⟨t27, m5⟩ : S81aa)) (y := y) (nb := 6) (fun y => by cases y <;> simp [ou81aa]) (rnd81aa ra rb rc ps t3 t4 t25 t26) h
    obtain ⟨x, hx, hg, rfl, rfl⟩ := chosen_any hch
    simp only [List.mem_cons, List.not_mem_nil, or_false] at hx
    subst hx
    exact main _ (is81aa_0 ra rb rc ps t3 t4 t25 t26 t27 m5 hg)
  · cases hl
theorem is81a_0 (ra rb rc : Int) (ps : List (List AV)) (t3 : Nat) (t4 : Int) (m5 : List (List AV)) (h : i81a_0 ra rb rc ps t3 t4 m5 = true) : r81a ra rb rc ps t3 t4 m5 = some (.x0 (v81a_0_t4 ra rb rc ps t3 t4 m5) (v81a_0_m5 ra rb rc ps t3 t4 m5)) := by
  unfold i81a_0 at h
  unfold v81a_0_t4 v81a_0_m5
  generalize r81a ra rb rc ps t3 t4 m5 = r at h ⊢
  rcases r with _ | y
  · cases h
  · cases y <;> first | rfl | cases h
theorem round81a (ra rb rc : Int) (ps : List (List AV)) (t3 : Nat) (t4 : Int) (m5 : List (List AV)) : round Try.prog SS6 (ro 38) L81 lp81a [false, true, false, true, true, true] [(1, none), (2, none), (3, none), (4, none)] 6 (s81a ra rb rc ps t3 t4 m5) =
    cond (decide (t4 ≤ ra)) (cond (i81aa_0 ra rb rc ps t3 t4 ps (↑ps.length : Int) 0 m5) (some (.nrm, s81a ra rb rc ps t3 (IntKind.i64.wrap (t4 + 1)) (v81aa_0_m5 ra rb rc ps t3 t4 ps (↑ps.length : Int) 0 m5))) (none)) (some (.ext 0, o81a_0 ra rb rc ps t3 t4 m5)) := by kernel_rfl
theorem rnd81a (ra rb rc : Int) (ps : List (List AV)) (t3 : Nat) (x : S81a) : round Try.prog SS6 (ro 38) L81 lp81a [false, true, false, true, true, true] [(1, none), (2, none), (3, none), (4, none)] 6 ((fun x => s81a ra rb rc ps t3 x.t4 x.m5) x) = toR (fun x => s81a ra rb rc ps t3 x.t4 x.m5) (ou81a ra rb rc ps t3) (stp81a ra rb rc ps t3 x.t4 x.m5) := by
  refine (round81a _ _ _ _ _ _ _ ).trans ?_
  unfold stp81a
  simp only [toR_cond]
  rfl
theorem lok81a {st : St} {outs : List (Bool × Ex × St)} {e : Ex} {s : St} (hl : l81a st = some outs) (hch : Chosen outs e s) :
    ∃ keep nb, 0 ≤ nb ∧ LB Try.prog SS6 (ro 38) L81 lp81a [false, true, false, true, true, true] keep nb st e s := by
  unfold l81a at hl
  split at hl
  · rename_i ra rb rc ps t3 t4 m5 hno
    cases hl
    have hno := normW_norm hno
    refine ⟨_, _, ?_, .enter hno ?_⟩
    · decide
    have main := fun y h => LB_run (x := (⟨t4, m5⟩ : S81a)) (y := y) (nb := 6) (fun y => by cases y <;> simp [ou81a]) (rnd81a ra rb rc ps t3) h
    obtain ⟨x, hx, hg, rfl, rfl⟩ := chosen_any hch
    simp only [List.mem_cons, List.not_mem_nil, or_false] at hx
    subst hx
    exact main _ (is81a_0 ra rb rc ps t3 t4 m5 hg)
  · cases hl
theorem L81_ok (q : Pl) (c : Code) (hq : locate c81 q.reverse = some (.loop c)) (st : St) (outs : List (Bool × Ex × St)) (e : Ex) (s : St) (hl : L81 q st = some outs) (hch : Chosen outs e s) :
    ∃ keep nb, 0 ≤ nb ∧ LB Try.prog SS6 (ro 38) L81 c q keep nb st e s := by
  unfold L81 at hl
  split at hl
  · have : locate c81 ([false, true, false, false, true, false, false, true, false, true, true, true] : Pl).reverse = some (.loop lp81aa) := by kernel_rfl
    rw [this] at hq
    cases hq
    exact lok81aa hl hch
  · have : locate c81 ([false, true, false, true, true, true] : Pl).reverse = some (.loop lp81a) := by kernel_rfl
    rw [this] at hq
    cases hq
    exact lok81a hl hch
  · cases hl
theorem lok81 : LOK Try.prog SS6 (ro 38) L81 0 false c81 [] :=
  lok_lo L81_ok c81 [] false (locate_nil _) (by kernel_rfl)
noncomputable def t81 (ra rb rc : Int) (ps : List (List AV)) : Tr ((List (List AV))) :=
  .cn (decide (IntKind.i64.wrap (ra + 1) = IntKind.i64.wrap (ra + 1)) && (decide (0 ≤ IntKind.i64.wrap (ra + 1)) && decide (IntKind.i64.wrap (ra + 1) * (↑80 : Int) ≤ 140737488355328) && decide (IntKind.i64.wrap (ra + 1) ≤ 9223372036854775807))) (.cn (inb 0 (IntKind.i64.wrap (ra + 1)).toNat && Nat.blt 0 (List.replicate (IntKind.i64.wrap (ra + 1)).toNat [AV.i IntKind.i64 0, AV.i IntKind.i64 0, AV.i IntKind.i64 0, AV.i IntKind.i64 0, AV.i IntKind.i64 0, AV.i IntKind.i64 0, AV.i IntKind.i64 0, AV.i IntKind.i64 0, AV.i IntKind.i64 0, AV.i IntKind.i64 0]).length) (.cn (inb rc 10) (.cn (ctsAt (cts Try.prog 94) (0 + rc.toNat * 1) (cts Try.prog 3) && Nat.blt 0 (List.replicate (IntKind.i64.wrap (ra + 1)).toNat [AV.i IntKind.i64 0, AV.i IntKind.i64 0, AV.i IntKind.i64 0, AV.i IntKind.i64 0, AV.i IntKind.i64 0, AV.i IntKind.i64 0, AV.i IntKind.i64 0, AV.i IntKind.i64 0, AV.i IntKind.i64 0, AV.i IntKind.i64 0]).length) (.cn (i81a_0 ra rb rc ps (IntKind.i64.wrap (ra + 1)).toNat 1 ((List.replicate (IntKind.i64.wrap (ra + 1)).toNat [AV.i IntKind.i64 0, AV.i IntKind.i64 0, AV.i IntKind.i64 0, AV.i IntKind.i64 0, AV.i IntKind.i64 0, AV.i IntKind.i64 0, AV.i IntKind.i64 0, AV.i IntKind.i64 0, AV.i IntKind.i64 0, AV.i IntKind.i64 0]).set 0 (setCs ((List.replicate (IntKind.i64.wrap (ra + 1)).toNat [AV.i IntKind.i64 0, AV.i IntKind.i64 0, AV.i IntKind.i64 0, AV.i IntKind.i64 0, AV.i IntKind.i64 0, AV.i IntKind.i64 0, AV.i IntKind.i64 0, AV.i IntKind.i64 0, AV.i IntKind.i64 0, AV.i IntKind.i64 0]).getD 0 []) (0 + rc.toNat * 1) [AV.i IntKind.i64 1]))) (.cn ((0 + (IntKind.i64.wrap (ra + 1)).toNat).ble (v81a_0_m5 ra rb rc ps (IntKind.i64.wrap (ra + 1)).toNat 1 ((List.replicate (IntKind.i64.wrap (ra + 1)).toNat [AV.i IntKind.i64 0, AV.i IntKind.i64 0, AV.i IntKind.i64 0, AV.i IntKind.i64 0, AV.i IntKind.i64 0, AV.i IntKind.i64 0, AV.i IntKind.i64 0, AV.i IntKind.i64 0, AV.i IntKind.i64 0, AV.i IntKind.i64 0]).set 0 (setCs ((List.replicate (IntKind.i64.wrap (ra + 1)).toNat [AV.i IntKind.i64 0, AV.i IntKind.i64 0, AV.i IntKind.i64 0, AV.i IntKind.i64 0, AV.i IntKind.i64 0, AV.i IntKind.i64 0, AV.i IntKind.i64 0, AV.i IntKind.i64 0, AV.i IntKind.i64 0, AV.i IntKind.i64 0]).getD 0 []) (0 + rc.toNat * 1) [AV.i IntKind.i64 1]))).length) (.lf (bif (IntKind.i64.wrap (ra + 1)).toNat.beq (v81a_0_m5 ra rb rc ps (IntKind.i64.wrap (ra + 1)).toNat 1 ((List.replicate (IntKind.i64.wrap (ra + 1)).toNat [AV.i IntKind.i64 0, AV.i IntKind.i64 0, AV.i IntKind.i64 0, AV.i IntKind.i64 0, AV.i IntKind.i64 0, AV.i IntKind.i64 0, AV.i IntKind.i64 0, AV.i IntKind.i64 0, AV.i IntKind.i64 0, AV.i IntKind.i64 0]).set 0 (setCs ((List.replicate (IntKind.i64.wrap (ra + 1)).toNat [AV.i IntKind.i64 0, AV.i IntKind.i64 0, AV.i IntKind.i64 0, AV.i IntKind.i64 0, AV.i IntKind.i64 0, AV.i IntKind.i64 0, AV.i IntKind.i64 0, AV.i IntKind.i64 0, AV.i IntKind.i64 0, AV.i IntKind.i64 0]).getD 0 []) (0 + rc.toNat * 1) [AV.i IntKind.i64 1]))).length then v81a_0_m5 ra rb rc ps (IntKind.i64.wrap (ra + 1)).toNat 1 ((List.replicate (IntKind.i64.wrap (ra + 1)).toNat [AV.i IntKind.i64 0, AV.i IntKind.i64 0, AV.i IntKind.i64 0, AV.i IntKind.i64 0, AV.i IntKind.i64 0, AV.i IntKind.i64 0, AV.i IntKind.i64 0, AV.i IntKind.i64 0, AV.i IntKind.i64 0, AV.i IntKind.i64 0]).set 0 (setCs ((List.replicate (IntKind.i64.wrap (ra + 1)).toNat [AV.i IntKind.i64 0, AV.i IntKind.i64 0, AV.i IntKind.i64 0, AV.i IntKind.i64 0, AV.i IntKind.i64 0, AV.i IntKind.i64 0, AV.i IntKind.i64 0, AV.i IntKind.i64 0, AV.i IntKind.i64 0, AV.i IntKind.i64 0]).getD 0 []) (0 + rc.toNat * 1) [AV.i IntKind.i64 1])) else List.take (IntKind.i64.wrap (ra + 1)).toNat (List.drop 0 (v81a_0_m5 ra rb rc ps (IntKind.i64.wrap (ra + 1)).toNat 1 ((List.replicate (IntKind.i64.wrap (ra + 1)).toNat [AV.i IntKind.i64 0, AV.i IntKind.i64 0, AV.i IntKind.i64 0, AV.i IntKind.i64 0, AV.i IntKind.i64 0, AV.i IntKind.i64 0, AV.i IntKind.i64 0, AV.i IntKind.i64 0, AV.i IntKind.i64 0, AV.i IntKind.i64 0]).set 0 (setCs ((List.replicate (IntKind.i64.wrap (ra + 1)).toNat [AV.i IntKind.i64 0, AV.i IntKind.i64 0, AV.i IntKind.i64 0, AV.i IntKind.i64 0, AV.i IntKind.i64 0, AV.i IntKind.i64 0, AV.i IntKind.i64 0, AV.i IntKind.i64 0, AV.i IntKind.i64 0, AV.i IntKind.i64 0]).getD 0 []) (0 + rc.toNat * 1) [AV.i IntKind.i64 1])))))) (.nn)) (.nn)) (.nn)) (.nn)) (.nn)) (.nn)
noncomputable def g81 (ra rb rc : Int) (ps : List (List AV)) : Bool := (t81 ra rb rc ps).g
noncomputable def w81_0 (ra rb rc : Int) (ps : List (List AV)) : List (List AV) := (t81 ra rb rc ps).val
theorem eq81 (ra rb rc : Int) (ps : List (List AV)) : evF Try.prog SS6 (ro 38) L81 Try.f38 [.agg [.i .i64 ra, .i .i64 rb, .i .i64 rc, .rs 39 ps]] = (t81 ra rb rc ps).opt (fun (x : (List (List AV))) => (.rs 94 x : AV)) := by kernel_rfl
theorem con81 (ra rb rc : Int) (ps : List (List AV)) (h : g81 ra rb rc ps = true) : Con Try.prog 38 [.agg [.i .i64 ra, .i .i64 rb, .i .i64 rc, .rs 39 ps]] [] (.rs 94 (w81_0 ra rb rc ps)) [] :=
  con_of SS6_ok mixed Try.func38 (c := c81) rfl (names 38 _ Try.func38) lok81 ((eq81 ra rb rc ps).trans (Tr.sound _ _ h))
noncomputable def e81 (args : List AV) (rows : List Blk) : Option (Bool × AV × List Blk) := match args, rows with
  | [.agg [.i .i64 ra, .i .i64 rb, .i .i64 rc, .rs 39 ps]], [] => some (g81 ra rb rc ps, .rs 94 (w81_0 ra rb rc ps), [])
  | _, _ => none
theorem e81_ok (args : List AV) (rows : List Blk) (pre : Bool) (v : AV) (rows' : List Blk) (h : e81 args rows = some (pre, v, rows')) (hp : pre = true) : Con Try.prog 38 args rows v rows' := by
  unfold e81 at h
  split at h
  · cases h; exact con81 _ _ _ _ hp
  · cases h
-- SPEC 81
end Go.Proofs.Ytfbfohkgajeopac

set_option maxRecDepth 100000
set_option linter.unusedVariables false
namespace Go.Proofs.Ytfbfohkgajeopac
open Go Go.Ev
noncomputable def SS7 : Ev.Spec := insS 38 e81 (insS 23 e52 (insS 25 e51 (insS 20 e29 (S0))))
theorem SS7_ok : SpecOK Try.prog SS7 := insS_ok e81_ok (insS_ok e52_ok (insS_ok e51_ok (insS_ok e29_ok (S0_ok))))
end Go.Proofs.Ytfbfohkgajeopac

set_option maxRecDepth 100000
set_option maxHeartbeats 0
set_option linter.unusedVariables false
namespace Go.Proofs.Ytfbfohkgajeopac
open Go Go.Ev

noncomputable def c50 : Code := match Try.f22.body with | some c => c | _ => .skip
theorem lok50 : LOK Try.prog SS7 (ro 22) (fun _ _ => none) 0 false c50 [] :=
  lok_lo (fun _ _ _ _ _ _ _ h _ => by cases h) c50 [] false (locate_nil _) (by kernel_rfl)
noncomputable def t50 (ra rb rc : Int) (ps : List (List AV)) : Tr ((List (List AV)) × (Int)) :=
  .cn (g29 ra rb rc ps) (.cn (w29_0 ra rb rc ps != 0) (.lf ([], w29_0 ra rb rc ps)) (.cn (g81 ra rb rc ps) (.cn (g51 (w81_0 ra rb rc ps) (w52_0 ra rb rc ps) (w52_1 ra rb rc ps)) (.cn (decide (w51_0 (w81_0 ra rb rc ps) (w52_0 ra rb rc ps) (w52_1 ra rb rc ps) > 1000000000000000)) (.lf ([], 3)) (.lf (w81_0 ra rb rc ps, 0))) (.nn)) (.nn))) (.nn)
noncomputable def g50 (ra rb rc : Int) (ps : List (List AV)) : Bool := (t50 ra rb rc ps).g
noncomputable def w50_0 (ra rb rc : Int) (ps : List (List AV)) : List (List AV) := (t50 ra rb rc ps).val.1
noncomputable def w50_1 (ra rb rc : Int) (ps : List (List AV)) : Int := (t50 ra rb rc ps).val.2
noncomputable def a50 (ra rb rc : Int) (ps : List (List AV)) : Tr AV :=
  .cn (g29 ra rb rc ps) (.cn (w29_0 ra rb rc ps != 0) (.lf (.tup [.nl, .i .i64 (w29_0 ra rb rc ps)])) (.cn (g81 ra rb rc ps) (.cn (g51 (w81_0 ra rb rc ps) (w52_0 ra rb rc ps) (w52_1 ra rb rc ps)) (.cn (decide (w51_0 (w81_0 ra rb rc ps) (w52_0 ra rb rc ps) (w52_1 ra rb rc ps) > 1000000000000000)) (.lf (.tup [.nl, .i .i64 3])) (.lf (.tup [.rs 94 (w81_0 ra rb rc ps), .i .i64 0]))) (.nn)) (.nn))) (.nn)
theorem eq50 (ra rb rc : Int) (ps : List (List AV)) : evF Try.prog SS7 (ro 22) (fun _ _ => none) Try.f22 [.agg [.i .i64 ra, .i .i64 rb, .i .i64 rc, .rs 39 ps]] = (a50 ra rb rc ps).opt id := by kernel_rfl
theorem wk50 (ra rb rc : Int) (ps : List (List AV)) : (a50 ra rb rc ps).map (wkV [some 94, none]) = (t50 ra rb rc ps).map (fun (x : (List (List AV)) × (Int)) => (.tup [.rs 94 x.1, .i .i64 x.2] : AV)) := by kernel_rfl
theorem con50 (ra rb rc : Int) (ps : List (List AV)) (h : g50 ra rb rc ps = true) : Con Try.prog 22 [.agg [.i .i64 ra, .i .i64 rb, .i .i64 rc, .rs 39 ps]] [] (.tup [.rs 94 (w50_0 ra rb rc ps), .i .i64 (w50_1 ra rb rc ps)]) [] := by
  obtain ⟨v, h1, h2⟩ := Tr.soundW (eq50 ra rb rc ps) (wk50 ra rb rc ps) h
  have := (con_of SS7_ok mixed Try.func22 (c := c50) rfl (names 22 _ Try.func22) lok50 h1).wk [some 94, none]
  rw [h2] at this
  exact this
noncomputable def e50 (args : List AV) (rows : List Blk) : Option (Bool × AV × List Blk) := match args, rows with
  | [.agg [.i .i64 ra, .i .i64 rb, .i .i64 rc, .rs 39 ps]], [] => some (g50 ra rb rc ps, .tup [.rs 94 (w50_0 ra rb rc ps), .i .i64 (w50_1 ra rb rc ps)], [])
  | _, _ => none
theorem e50_ok (args : List AV) (rows : List Blk) (pre : Bool) (v : AV) (rows' : List Blk) (h : e50 args rows = some (pre, v, rows')) (hp : pre = true) : Con Try.prog 22 args rows v rows' := by
  unfold e50 at h
  split at h
  · cases h; exact con50 _ _ _ _ hp
  · cases h
-- SPEC 50
end Go.Proofs.Ytfbfohkgajeopac

set_option maxRecDepth 100000
set_option linter.unusedVariables false
namespace Go.Proofs.Ytfbfohkgajeopac
open Go Go.Ev
noncomputable def SS11 : Ev.Spec := insS 24 e71 (insS 26 e55 (insS 23 e52 (S0)))
theorem SS11_ok : SpecOK Try.prog SS11 := insS_ok e71_ok (insS_ok e55_ok (insS_ok e52_ok (S0_ok)))
end Go.Proofs.Ytfbfohkgajeopac

set_option maxRecDepth 100000
set_option maxHeartbeats 0
set_option linter.unusedVariables false
namespace Go.Proofs.Ytfbfohkgajeopac
open Go Go.Ev

noncomputable def c64 : Code := match Try.f21.body with | some c => c | _ => .skip
noncomputable def lp64a : Code := loopAt c64 [true, true, false, true, false]
noncomputable def s64a (ra rb rc : Int) (ps : List (List AV)) (t4 t6 : Bool) (ws : List (List AV)) (t12 t13 m4_0 m4_1 : Int) : St :=
  { t := [(2, .rp [.int .i64, .int .i64, .int .i64, .sl 39] [.i .i64 ra, .i .i64 rb, .i .i64 rc, .rs 39 ps] 0), (4, .b t4), (5, .p 4 0 0), (6, .b t6), (11, .rs 3 ws), (12, .i .i64 t12), (13, .i .i64 t13)], m := [(0, .dead), (1, .dead), (2, .dead), (3, .dead), (4, .row 74 [[.i .i64 m4_0, .i .i64 m4_1]])], nx := 5, nt := 42 }
structure S64a where
  t6 : Bool
  t13 : Int
  m4_0 : Int
  m4_1 : Int
inductive T64a where
  | x0 (t4' : Bool) (t6 : Bool) (t13 : Int) (m4_0 : Int) (m4_1 : Int)
  | x1 (t6 : Bool) (t13 : Int) (m4_0 : Int) (m4_1 : Int)
noncomputable def stp64a (ra rb rc : Int) (ps : List (List AV)) (t4 : Bool) (ws : List (List AV)) (t12 : Int) (t6 : Bool) (t13 m4_0 m4_1 : Int) : Lp S64a T64a :=
  cond (decide (t13 < t12)) (cond (inb t13 ws.length) (cond (g55 (fI (ws.getD t13.toNat []) 0) 0 (IntKind.i64.wrap ((↑ps.length : Int) - 1))) (cond (!w55_0 (fI (ws.getD t13.toNat []) 0) 0 (IntKind.i64.wrap ((↑ps.length : Int) - 1))) (.out (.x0 false t6 t13 m4_0 m4_1)) (cond (inb (fI (ws.getD t13.toNat []) 0) ps.length) (cond (g71 m4_0 m4_1 (fS (ps.getD (fI (ws.getD t13.toNat []) 0).toNat []) 0) (fI (ps.getD (fI (ws.getD t13.toNat []) 0).toNat []) 1) (fI (ps.getD (fI (ws.getD t13.toNat []) 0).toNat []) 2) (fI (ps.getD (fI (ws.getD t13.toNat []) 0).toNat []) 3) (fI (ps.getD (fI (ws.getD t13.toNat []) 0).toNat []) 4)) (cond (!w71_2 m4_0 m4_1 (fS (ps.getD (fI (ws.getD t13.toNat []) 0).toNat []) 0) (fI (ps.getD (fI (ws.getD t13.toNat []) 0).toNat []) 1) (fI (ps.getD (fI (ws.getD t13.toNat []) 0).toNat []) 2) (fI (ps.getD (fI (ws.getD t13.toNat []) 0).toNat []) 3) (fI (ps.getD (fI (ws.getD t13.toNat []) 0).toNat []) 4)) (.out (.x0 false (w71_2 m4_0 m4_1 (fS (ps.getD (fI (ws.getD t13.toNat []) 0).toNat []) 0) (fI (ps.getD (fI (ws.getD t13.toNat []) 0).toNat []) 1) (fI (ps.getD (fI (ws.getD t13.toNat []) 0).toNat []) 2) (fI (ps.getD (fI (ws.getD t13.toNat []) 0).toNat []) 3) (fI (ps.getD (fI (ws.getD t13.toNat []) 0).toNat []) 4)) t13 (w71_0 m4_0 m4_1 (fS (ps.getD (fI (ws.getD t13.toNat []) 0).toNat []) 0) (fI (ps.getD (fI (ws.getD t13.toNat []) 0).toNat []) 1) (fI (ps.getD (fI (ws.getD t13.toNat []) 0).toNat []) 2) (fI (ps.getD (fI (ws.getD t13.toNat []) 0).toNat []) 3) (fI (ps.getD (fI (ws.getD t13.toNat []) 0).toNat []) 4)) (w71_1 m4_0 m4_1 (fS (ps.getD (fI (ws.getD t13.toNat []) 0).toNat []) 0) (fI (ps.getD (fI (ws.getD t13.toNat []) 0).toNat []) 1) (fI (ps.getD (fI (ws.getD t13.toNat []) 0).toNat []) 2) (fI (ps.getD (fI (ws.getD t13.toNat []) 0).toNat []) 3) (fI (ps.getD (fI (ws.getD t13.toNat []) 0).toNat []) 4)))) (.go ⟨w71_2 m4_0 m4_1 (fS (ps.getD (fI (ws.getD t13.toNat []) 0).toNat []) 0) (fI (ps.getD (fI (ws.getD t13.toNat []) 0).toNat []) 1) (fI (ps.getD (fI (ws.getD t13.toNat []) 0).toNat []) 2) (fI (ps.getD (fI (ws.getD t13.toNat []) 0).toNat []) 3) (fI (ps.getD (fI (ws.getD t13.toNat []) 0).toNat []) 4), IntKind.i64.wrap (t13 + 1), w71_0 m4_0 m4_1 (fS (ps.getD (fI (ws.getD t13.toNat []) 0).toNat []) 0) (fI (ps.getD (fI (ws.getD t13.toNat []) 0).toNat []) 1) (fI (ps.getD (fI (ws.getD t13.toNat []) 0).toNat []) 2) (fI (ps.getD (fI (ws.getD t13.toNat []) 0).toNat []) 3) (fI (ps.getD (fI (ws.getD t13.toNat []) 0).toNat []) 4), w71_1 m4_0 m4_1 (fS (ps.getD (fI (ws.getD t13.toNat []) 0).toNat []) 0) (fI (ps.getD (fI (ws.getD t13.toNat []) 0).toNat []) 1) (fI (ps.getD (fI (ws.getD t13.toNat []) 0).toNat []) 2) (fI (ps.getD (fI (ws.getD t13.toNat []) 0).toNat []) 3) (fI (ps.getD (fI (ws.getD t13.toNat []) 0).toNat []) 4)⟩)) (.bad)) (.bad))) (.bad)) (.bad)) (.out (.x1 t6 t13 m4_0 m4_1))
noncomputable def o64a_0 (ra rb rc : Int) (ps : List (List AV)) (t4 : Bool) (ws : List (List AV)) (t12 : Int) (t4' t6 : Bool) (t13 m4_0 m4_1 : Int) : St :=
  { t := [(2, .rp [.int .i64, .int .i64, .int .i64, .sl 39] [.i .i64 ra, .i .i64 rb, .i .i64 rc, .rs 39 ps] 0), (4, .b t4'), (5, .p 4 0 0), (6, .b t6), (11, .rs 3 ws), (12, .i .i64 t12), (13, .i .i64 t13)], m := [(0, .dead), (1, .dead), (2, .dead), (3, .dead), (4, .row 74 [[.i .i64 m4_0, .i .i64 m4_1]])], nx := 5, nt := 42 }
noncomputable def o64a_1 (ra rb rc : Int) (ps : List (List AV)) (t4 : Bool) (ws : List (List AV)) (t12 : Int) (t6 : Bool) (t13 m4_0 m4_1 : Int) : St :=
  { t := [(2, .rp [.int .i64, .int .i64, .int .i64, .sl 39] [.i .i64 ra, .i .i64 rb, .i .i64 rc, .rs 39 ps] 0), (4, .b t4), (5, .p 4 0 0), (6, .b t6), (11, .rs 3 ws), (12, .i .i64 t12), (13, .i .i64 t13)], m := [(0, .dead), (1, .dead), (2, .dead), (3, .dead), (4, .row 74 [[.i .i64 m4_0, .i .i64 m4_1]])], nx := 5, nt := 42 }
noncomputable def ou64a (ra rb rc : Int) (ps : List (List AV)) (t4 : Bool) (ws : List (List AV)) (t12 : Int) : T64a → Ex × St
  | .x0 t4' t6 t13 m4_0 m4_1 => (.ret, o64a_0 ra rb rc ps t4 ws t12 t4' t6 t13 m4_0 m4_1)
  | .x1 t6 t13 m4_0 m4_1 => (.ext 0, o64a_1 ra rb rc ps t4 ws t12 t6 t13 m4_0 m4_1)
noncomputable def r64a (ra rb rc : Int) (ps : List (List AV)) (t4 : Bool) (ws : List (List AV)) (t12 : Int) (t6 : Bool) (t13 m4_0 m4_1 : Int) : Option T64a := run (fun x => stp64a ra rb rc ps t4 ws t12 x.t6 x.t13 x.m4_0 x.m4_1) (⟨t6, t13, m4_0, m4_1⟩ : S64a)
noncomputable def i64a_0 (ra rb rc : Int) (ps : List (List AV)) (t4 : Bool) (ws : List (List AV)) (t12 : Int) (t6 : Bool) (t13 m4_0 m4_1 : Int) : Bool := match r64a ra rb rc ps t4 ws t12 t6 t13 m4_0 m4_1 with
  | some (.x0 _ _ _ _ _) => true
  | _ => false
noncomputable def v64a_0_t4' (ra rb rc : Int) (ps : List (List AV)) (t4 : Bool) (ws : List (List AV)) (t12 : Int) (t6 : Bool) (t13 m4_0 m4_1 : Int) : Bool := match r64a ra rb rc ps t4 ws t12 t6 t13 m4_0 m4_1 with
  | some (.x0 t4' _ _ _ _) => t4'
  | _ => default
noncomputable def v64a_0_t6 (ra rb rc : Int) (ps : List (List AV)) (t4 : Bool) (ws : List (List AV)) (t12 : Int) (t6 : Bool) (t13 m4_0 m4_1 : Int) : Bool := match r64a ra rb rc ps t4 ws t12 t6 t13 m4_0 m4_1 with
  | some (.x0 _ t6 _ _ _) => t6
  | _ => default
noncomputable def v64a_0_t13 (ra rb rc : Int) (ps : List (List AV)) (t4 : Bool) (ws : List (List AV)) (t12 : Int) (t6 : Bool) (t13 m4_0 m4_1 : Int) : Int := match r64a ra rb rc ps t4 ws t12 t6 t13 m4_0 m4_1 with
  | some (.x0 _ _ t13 _ _) => t13
  | _ => default
noncomputable def v64a_0_m4_0 (ra rb rc : Int) (ps : List (List AV)) (t4 : Bool) (ws : List (List AV)) (t12 : Int) (t6 : Bool) (t13 m4_0 m4_1 : Int) : Int := match r64a ra rb rc ps t4 ws t12 t6 t13 m4_0 m4_1 with
  | some (.x0 _ _ _ m4_0 _) => m4_0
  | _ => default
noncomputable def v64a_0_m4_1 (ra rb rc : Int) (ps : List (List AV)) (t4 : Bool) (ws : List (List AV)) (t12 : Int) (t6 : Bool) (t13 m4_0 m4_1 : Int) : Int := match r64a ra rb rc ps t4 ws t12 t6 t13 m4_0 m4_1 with
  | some (.x0 _ _ _ _ m4_1) => m4_1
  | _ => default
noncomputable def i64a_1 (ra rb rc : Int) (ps : List (List AV)) (t4 : Bool) (ws : List (List AV)) (t12 : Int) (t6 : Bool) (t13 m4_0 m4_1 : Int) : Bool := match r64a ra rb rc ps t4 ws t12 t6 t13 m4_0 m4_1 with
  | some (.x1 _ _ _ _) => true
  | _ => false
noncomputable def v64a_1_t6 (ra rb rc : Int) (ps : List (List AV)) (t4 : Bool) (ws : List (List AV)) (t12 : Int) (t6 : Bool) (t13 m4_0 m4_1 : Int) : Bool := match r64a ra rb rc ps t4 ws t12 t6 t13 m4_0 m4_1 with
  | some (.x1 t6 _ _ _) => t6
  | _ => default
noncomputable def v64a_1_t13 (ra rb rc : Int) (ps : List (List AV)) (t4 : Bool) (ws : List (List AV)) (t12 : Int) (t6 : Bool) (t13 m4_0 m4_1 : Int) : Int := match r64a ra rb rc ps t4 ws t12 t6 t13 m4_0 m4_1 with
  | some (.x1 _ t13 _ _) => t13
  | _ => default
noncomputable def v64a_1_m4_0 (ra rb rc : Int) (ps : List (List AV)) (t4 : Bool) (ws : List (List AV)) (t12 : Int) (t6 : Bool) (t13 m4_0 m4_1 : Int) : Int := match r64a ra rb rc ps t4 ws t12 t6 t13 m4_0 m4_1 with
  | some (.x1 _ _ m4_0 _) => m4_0
  | _ => default
noncomputable def v64a_1_m4_1 (ra rb rc : Int) (ps : List (List AV)) (t4 : Bool) (ws : List (List AV)) (t12 : Int) (t6 : Bool) (t13 m4_0 m4_1 : Int) : Int := match r64a ra rb rc ps t4 ws t12 t6 t13 m4_0 m4_1 with
  | some (.x1 _ _ _ m4_1) => m4_1
  | _ => default
noncomputable def l64a (st : St) : Option (List (Bool × Ex × St)) := match normW Try.prog [(2, none), (4, none), (5, none), (6, none), (11, none), (12, none), (13, none)] 5 st with
  | some ([.rp [.int .i64, .int .i64, .int .i64, .sl 39] [.i .i64 ra, .i .i64 rb, .i .i64 rc, .rs 39 ps] 0, .b t4, .p 4 0 0, .b t6, .rs 3 ws, .i .i64 t12, .i .i64 t13], [(0, .dead), (1, .dead), (2, .dead), (3, .dead), (4, .row 74 [[.i .i64 m4_0, .i .i64 m4_1]])], 5, 42) => some [(i64a_0 ra rb rc ps t4 ws t12 t6 t13 m4_0 m4_1, .ret, o64a_0 ra rb rc ps t4 ws t12 (v64a_0_t4' ra rb rc ps t4 ws t12 t6 t13 m4_0 m4_1) (v64a_0_t6 ra rb rc ps t4 ws t12 t6 t13 m4_0 m4_1) (v64a_0_t13 ra rb rc ps t4 ws t12 t6 t13 m4_0 m4_1) (v64a_0_m4_0 ra rb rc ps t4 ws t12 t6 t13 m4_0 m4_1) (v64a_0_m4_1 ra rb rc ps t4 ws t12 t6 t13 m4_0 m4_1)), (i64a_1 ra rb rc ps t4 ws t12 t6 t13 m4_0 m4_1, .ext 0, o64a_1 ra rb rc ps t4 ws t12 (v64a_1_t6 ra rb rc ps t4 ws t12 t6 t13 m4_0 m4_1) (v64a_1_t13 ra rb rc ps t4 ws t12 t6 t13 m4_0 m4_1) (v64a_1_m4_0 ra rb rc ps t4 ws t12 t6 t13 m4_0 m4_1) (v64a_1_m4_1 ra rb rc ps t4 ws t12 t6 t13 m4_0 m4_1))]
  | _ => none
noncomputable def L64 : LSpec := fun p st => match p with
  | [false, true, false, true, true] => l64a st
  | _ => none
theorem is64a_0 (ra rb rc : Int) (ps : List (List AV)) (t4 : Bool) (ws : List (List AV)) (t12 : Int) (t6 : Bool) (t13 m4_0 m4_1 : Int) (h : i64a_0 ra rb rc ps t4 ws t12 t6 t13 m4_0 m4_1 = true) : r64a ra rb rc ps t4 ws t12 t6 t13 m4_0 m4_1 = some (.x0 (v64a_0_t4' ra rb rc ps t4 ws t12 t6 t13 m4_0 m4_1) (v64a_0_t6 ra rb rc ps t4 ws t12 t6 t13 m4_0 m4_1) (v64a_0_t13 ra rb rc ps t4 ws t12 t6 t13 m4_0 m4_1) (v64a_0_m4_0 ra rb rc ps t4 ws t12 t6 t13 m4_0 m4_1) (v64a_0_m4_1 ra rb rc ps t4 ws t12 t6 t13 m4_0 m4_1)) := by
  unfold i64a_0 at h
  unfold v64a_0_t4' v64a_0_t6 v64a_0_t13 v64a_0_m4_0 v64a_0_m4_1
  generalize r64a ra rb rc ps t4 ws t12 t6 t13 m4_0 m4_1 = r at h ⊢
  rcases r with _ | y
  · cases h
  · cases y <;> first | rfl | cases h
theorem is64a_1 (ra rb rc : Int) (ps : List (List AV)) (t4 : Bool) (ws : List (List AV)) (t12 : Int) (t6 : Bool) (t13 m4_0 m4_1 : Int) (h : i64a_1 ra rb rc ps t4 ws t12 t6 t13 m4_0 m4_1 = true) : r64a ra rb rc ps t4 ws t12 t6 t13 m4_0 m4_1 = some (.x1 (v64a_1_t6 ra rb rc ps t4 ws t12 t6 t13 m4_0 m4_1) (v64a_1_t13 ra rb rc ps t4 ws t12 t6 t13 m4_0 m4_1) (v64a_1_m4_0 ra rb rc ps t4 ws t12 t6 t13 m4_0 m4_1) (v64a_1_m4_1 ra rb rc ps t4 ws t12 t6 t13 m4_0 m4_1)) := by
  unfold i64a_1 at h
  unfold v64a_1_t6 v64a_1_t13 v64a_1_m4_0 v64a_1_m4_1
  generalize r64a ra rb rc ps t4 ws t12 t6 t13 m4_0 m4_1 = r at h ⊢
  rcases r with _ | y
  · cases h
  · cases y <;> first | rfl | cases h
theorem round64a (ra rb rc : Int) (ps : List (List AV)) (t4 t6 : Bool) (ws : List (List AV)) (t12 t13 m4_0 m4_1 : Int) : round Try.prog SS11 (ro 21) L64 lp64a [false, true, false, true, true] [(2, none), (4, none), (5, none), (6, none), (11, none), (12, none), (13, none)] 5 (s64a ra rb rc ps t4 t6 ws t12 t13 m4_0 m4_1) =
    cond (decide (t13 < t12)) (cond (inb t13 ws.length) (cond (g55 (fI (ws.getD t13.toNat []) 0) 0 (IntKind.i64.wrap ((↑ps.length : Int) - 1))) (cond (!w55_0 (fI (ws.getD t13.toNat []) 0) 0 (IntKind.i64.wrap ((↑ps.length : Int) - 1))) (some (.ret, o64a_0 ra rb rc ps t4 ws t12 false t6 t13 m4_0 m4_1)) (cond (inb (fI (ws.getD t13.toNat []) 0) ps.length) (cond (g71 m4_0 m4_1 (fS (ps.getD (fI (ws.getD t13.toNat []) 0).toNat []) 0) (fI (ps.getD (fI (ws.getD t13.toNat []) 0).toNat []) 1) (fI (ps.getD (fI (ws.getD t13.toNat []) 0).toNat []) 2) (fI (ps.getD (fI (ws.getD t13.toNat []) 0).toNat []) 3) (fI (ps.getD (fI (ws.getD t13.toNat []) 0).toNat []) 4)) (cond (!w71_2 m4_0 m4_1 (fS (ps.getD (fI (ws.getD t13.toNat []) 0).toNat []) 0) (fI (ps.getD (fI (ws.getD t13.toNat []) 0).toNat []) 1) (fI (ps.getD (fI (ws.getD t13.toNat []) 0).toNat []) 2) (fI (ps.getD (fI (ws.getD t13.toNat []) 0).toNat []) 3) (fI (ps.getD (fI (ws.getD t13.toNat []) 0).toNat []) 4)) (some (.ret, o64a_0 ra rb rc ps t4 ws t12 false (w71_2 m4_0 m4_1 (fS (ps.getD (fI (ws.getD t13.toNat []) 0).toNat []) 0) (fI (ps.getD (fI (ws.getD t13.toNat []) 0).toNat []) 1) (fI (ps.getD (fI (ws.getD t13.toNat []) 0).toNat []) 2) (fI (ps.getD (fI (ws.getD t13.toNat []) 0).toNat []) 3) (fI (ps.getD (fI (ws.getD t13.toNat []) 0).toNat []) 4)) t13 (w71_0 m4_0 m4_1 (fS (ps.getD (fI (ws.getD t13.toNat []) 0).toNat []) 0) (fI (ps.getD (fI (ws.getD t13.toNat []) 0).toNat []) 1) (fI (ps.getD (fI (ws.getD t13.toNat []) 0).toNat []) 2) (fI (ps.getD (fI (ws.getD t13.toNat []) 0).toNat []) 3) (fI (ps.getD (fI (ws.getD t13.toNat []) 0).toNat []) 4)) (w71_1 m4_0 m4_1 (fS (ps.getD (fI (ws.getD t13.toNat []) 0).toNat []) 0) (fI (ps.getD (fI (ws.getD t13.toNat []) 0).toNat []) 1) (fI (ps.getD (fI (ws.getD t13.toNat []) 0).toNat []) 2) (fI (ps.getD (fI (ws.getD t13.toNat []) 0).toNat []) 3) (fI (ps.getD (fI (ws.getD t13.toNat []) 0).toNat []) 4)))) (some (.nrm, s64a ra rb rc ps t4 (w71_2 m4_0 m4_1 (fS (ps.getD (fI (ws.getD t13.toNat []) 0).toNat []) 0) (fI (ps.getD (fI (ws.getD t13.toNat []) 0).toNat []) 1) (fI (ps.getD (fI (ws.getD t13.toNat []) 0).toNat []) 2) (fI (ps.getD (fI (ws.getD t13.toNat []) 0).toNat []) 3) (fI (ps.getD (fI (ws.getD t13.toNat []) 0).toNat []) 4)) ws t12 (IntKind.i64.wrap (t13 + 1)) (w71_0 m4_0 m4_1 (fS (ps.getD (fI (ws.getD t13.toNat []) 0).toNat []) 0) (fI (ps.getD (fI (ws.getD t13.toNat []) 0).toNat []) 1) (fI (ps.getD (fI (ws.getD t13.toNat []) 0).toNat []) 2) (fI (ps.getD (fI (ws.getD t13.toNat []) 0).toNat []) 3) (fI (ps.getD (fI (ws.getD t13.toNat []) 0).toNat []) 4)) (w71_1 m4_0 m4_1 (fS (ps.getD (fI (ws.getD t13.toNat []) 0).toNat []) 0) (fI (ps.getD (fI (ws.getD t13.toNat []) 0).toNat []) 1) (fI (ps.getD (fI (ws.getD t13.toNat []) 0).toNat []) 2) (fI (ps.getD (fI (ws.getD t13.toNat []) 0).toNat []) 3) (fI (ps.getD (fI (ws.getD t13.toNat []) 0).toNat []) 4))))) (none)) (none))) (none)) (none)) (some (.ext 0, o64a_1 ra rb rc ps t4 ws t12 t6 t13 m4_0 m4_1)) := by kernel_rfl
theorem rnd64a (ra rb rc : Int) (ps : List (List AV)) (t4 : Bool) (ws : List (List AV)) (t12 : Int) (x : S64a) : round Try.prog SS11 (ro 21) L64 lp64a [false, true, false, true, true] [(2, none), (4, none), (5, none), (6, none), (11, none), (12, none), (13, none)] 5 ((fun x => s64a ra rb rc ps t4 x.t6 ws t12 x.t13 x.m4_0 x.m4_1) x) = toR (fun x => s64a ra rb rc ps t4 x.t6 ws t12 x.t13 x.m4_0 x.m4_1) (ou64a ra rb rc ps t4 ws t12) (stp64a ra rb rc ps t4 ws t12 x.t6 x.t13 x.m4_0 x.m4_1) := by
  refine (round64a _ _ _ _ _ _ _ _ _ _ _ ).trans ?_
  unfold stp64a
  simp only [toR_cond]
  rfl
theorem lok64a {st : St} {outs : List (Bool × Ex × St)} {e : Ex} {s : St} (hl : l64a st = some outs) (hch : Chosen outs e s) :
    ∃ keep nb, 0 ≤ nb ∧ LB Try.prog SS11 (ro 21) L64 lp64a [false, true, false, true, true] keep nb st e s := by
  unfold l64a at hl
  split at hl
  · rename_i ra rb rc ps t4 t6 ws t12 t13 m4_0 m4_1 hno
    cases hl
    have hno := normW_norm hno
    refine ⟨_, _, ?_, .enter hno ?_⟩
    · decide
    have main := fun y h => LB_run (x := (⟨t6, t13, m4_0, m4_1⟩ : S64a)) (y := y) (nb := 5) (fun y => by cases y <;> simp [ou64a]) (rnd64a ra rb rc ps t4 ws t12) h
    obtain ⟨x, hx, hg, rfl, rfl⟩ := chosen_any hch
    simp only [List.mem_cons, List.not_mem_nil, or_false] at hx
    rcases hx with rfl | rfl
    · exact main _ (is64a_0 ra rb rc ps t4 ws t12 t6 t13 m4_0 m4_1 hg)
    · exact main _ (is64a_1 ra rb rc ps t4 ws t12 t6 t13 m4_0 m4_1 hg)
  · cases hl
theorem L64_ok (q : Pl) (c : Code) (hq : locate c64 q.reverse = some (.loop c)) (st : St) (outs : List (Bool × Ex × St)) (e : Ex) (s : St) (hl : L64 q st = some outs) (hch : Chosen outs e s) :
    ∃ keep nb, 0 ≤ nb ∧ LB Try.prog SS11 (ro 21) L64 c q keep nb st e s := by
  unfold L64 at hl
  split at hl
  · have : locate c64 ([false, true, false, true, true] : Pl).reverse = some (.loop lp64a) := by kernel_rfl
    rw [this] at hq
    cases hq
    exact lok64a hl hch
  · cases hl
theorem lok64 : LOK Try.prog SS11 (ro 21) L64 0 false c64 [] :=
  lok_lo L64_ok c64 [] false (locate_nil _) (by kernel_rfl)
noncomputable def t64 (ra rb rc : Int) (ps ws : List (List AV)) : Tr ((Bool)) :=
  .cn (i64a_0 ra rb rc ps false ws (↑ws.length : Int) true 0 (w52_0 ra rb rc ps) (w52_1 ra rb rc ps)) (.lf (v64a_0_t4' ra rb rc ps false ws (↑ws.length : Int) true 0 (w52_0 ra rb rc ps) (w52_1 ra rb rc ps))) (.cn (i64a_1 ra rb rc ps false ws (↑ws.length : Int) true 0 (w52_0 ra rb rc ps) (w52_1 ra rb rc ps)) (.lf (v64a_1_m4_0 ra rb rc ps false ws (↑ws.length : Int) true 0 (w52_0 ra rb rc ps) (w52_1 ra rb rc ps) == 0 && v64a_1_m4_1 ra rb rc ps false ws (↑ws.length : Int) true 0 (w52_0 ra rb rc ps) (w52_1 ra rb rc ps) == rc)) (.nn))
noncomputable def g64 (ra rb rc : Int) (ps ws : List (List AV)) : Bool := (t64 ra rb rc ps ws).g
noncomputable def w64_0 (ra rb rc : Int) (ps ws : List (List AV)) : Bool := (t64 ra rb rc ps ws).val
theorem eq64 (ra rb rc : Int) (ps ws : List (List AV)) : evF Try.prog SS11 (ro 21) L64 Try.f21 [.agg [.i .i64 ra, .i .i64 rb, .i .i64 rc, .rs 39 ps], .rs 3 ws] = (t64 ra rb rc ps ws).opt (fun (x : (Bool)) => (.b x : AV)) := by kernel_rfl
theorem con64 (ra rb rc : Int) (ps ws : List (List AV)) (h : g64 ra rb rc ps ws = true) : Con Try.prog 21 [.agg [.i .i64 ra, .i .i64 rb, .i .i64 rc, .rs 39 ps], .rs 3 ws] [] (.b (w64_0 ra rb rc ps ws)) [] :=
  con_of SS11_ok mixed Try.func21 (c := c64) rfl (names 21 _ Try.func21) lok64 ((eq64 ra rb rc ps ws).trans (Tr.sound _ _ h))
noncomputable def e64 (args : List AV) (rows : List Blk) : Option (Bool × AV × List Blk) := match args, rows with
  | [.agg [.i .i64 ra, .i .i64 rb, .i .i64 rc, .rs 39 ps], .rs 3 ws], [] => some (g64 ra rb rc ps ws, .b (w64_0 ra rb rc ps ws), [])
  | _, _ => none
theorem e64_ok (args : List AV) (rows : List Blk) (pre : Bool) (v : AV) (rows' : List Blk) (h : e64 args rows = some (pre, v, rows')) (hp : pre = true) : Con Try.prog 21 args rows v rows' := by
  unfold e64 at h
  split at h
  · cases h; exact con64 _ _ _ _ _ hp
  · cases h
-- SPEC 64
end Go.Proofs.Ytfbfohkgajeopac

set_option maxRecDepth 100000
set_option linter.unusedVariables false
namespace Go.Proofs.Ytfbfohkgajeopac
open Go Go.Ev
noncomputable def Sh : Ev.Spec := insS 20 e29 (insS 22 e50 (insS 25 e51 (insS 23 e52 (insS 26 e55 (insS 21 e64 (insS 24 e71 (S0)))))))
theorem Sh_ok : SpecOK Try.prog Sh := insS_ok e29_ok (insS_ok e50_ok (insS_ok e51_ok (insS_ok e52_ok (insS_ok e55_ok (insS_ok e64_ok (insS_ok e71_ok (S0_ok)))))))
end Go.Proofs.Ytfbfohkgajeopac

set_option maxRecDepth 100000
set_option linter.unusedVariables false
namespace Go.Proofs.Ytfbfohkgajeopac
open Go Go.Ev

noncomputable def c30 : Code := match Try.f7.body with | some c => c | _ => .skip
theorem lok30 : LOK Try.prog Sh (ro 7) (fun _ _ => none) 0 false c30 [] :=
  lok_lo (fun _ _ _ _ _ _ _ h _ => by cases h) c30 [] false (locate_nil _) (by kernel_rfl)
noncomputable def t30 (ra rb rc : Int) (ps ws : List (List AV)) : Tr ((Bool) × (Int)) :=
  .cn (g29 ra rb rc ps) (.cn (w29_0 ra rb rc ps != 0) (.lf (false, w29_0 ra rb rc ps)) (.cn (g64 ra rb rc ps ws) (.lf (w64_0 ra rb rc ps ws, 0)) (.nn))) (.nn)
noncomputable def g30 (ra rb rc : Int) (ps ws : List (List AV)) : Bool := (t30 ra rb rc ps ws).g
noncomputable def w30_0 (ra rb rc : Int) (ps ws : List (List AV)) : Bool := (t30 ra rb rc ps ws).val.1
noncomputable def w30_1 (ra rb rc : Int) (ps ws : List (List AV)) : Int := (t30 ra rb rc ps ws).val.2
theorem eq30 (ra rb rc : Int) (ps ws : List (List AV)) : evF Try.prog Sh (ro 7) (fun _ _ => none) Try.f7 [.agg [.i .i64 ra, .i .i64 rb, .i .i64 rc, .rs 39 ps], .rs 3 ws] = (t30 ra rb rc ps ws).opt (fun (x : (Bool) × (Int)) => (.tup [.b x.1, .i .i64 x.2] : AV)) := by kernel_rfl
theorem con30 (ra rb rc : Int) (ps ws : List (List AV)) (h : g30 ra rb rc ps ws = true) : Con Try.prog 7 [.agg [.i .i64 ra, .i .i64 rb, .i .i64 rc, .rs 39 ps], .rs 3 ws] [] (.tup [.b (w30_0 ra rb rc ps ws), .i .i64 (w30_1 ra rb rc ps ws)]) [] :=
  con_of Sh_ok mixed Try.func7 (c := c30) rfl (names 7 _ Try.func7) lok30 ((eq30 ra rb rc ps ws).trans (Tr.sound _ _ h))
noncomputable def e30 (args : List AV) (rows : List Blk) : Option (Bool × AV × List Blk) := match args, rows with
  | [.agg [.i .i64 ra, .i .i64 rb, .i .i64 rc, .rs 39 ps], .rs 3 ws], [] => some (g30 ra rb rc ps ws, .tup [.b (w30_0 ra rb rc ps ws), .i .i64 (w30_1 ra rb rc ps ws)], [])
  | _, _ => none
theorem e30_ok (args : List AV) (rows : List Blk) (pre : Bool) (v : AV) (rows' : List Blk) (h : e30 args rows = some (pre, v, rows')) (hp : pre = true) : Con Try.prog 7 args rows v rows' := by
  unfold e30 at h
  split at h
  · cases h; exact con30 _ _ _ _ _ hp
  · cases h
-- SPEC 30
end Go.Proofs.Ytfbfohkgajeopac

set_option maxRecDepth 100000
set_option linter.unusedVariables false
namespace Go.Proofs.Ytfbfohkgajeopac
open Go Go.Ev
noncomputable def SS12 : Ev.Spec := insS 21 e64 (insS 20 e29 (S0))
theorem SS12_ok : SpecOK Try.prog SS12 := insS_ok e64_ok (insS_ok e29_ok (S0_ok))
end Go.Proofs.Ytfbfohkgajeopac

set_option maxRecDepth 100000
set_option maxHeartbeats 0
set_option linter.unusedVariables false
namespace Go.Proofs.Ytfbfohkgajeopac
open Go Go.Ev

noncomputable def c34 : Code := match Try.f8.body with | some c => c | _ => .skip
noncomputable def lp34a : Code := loopAt c34 [true, true, true, true, false, true, false]
noncomputable def s34a (t5 : Int) (t7 : Nat) (ws : List (List AV)) (t24 t25 : Int) (m15 : List (List AV)) : St :=
  { t := [(4, .nl), (5, .i .i64 t5), (7, .sl 15 0 t7), (23, .rs 3 ws), (24, .i .i64 t24), (25, .i .i64 t25)], m := [(0, .dead), (1, .dead), (2, .dead), (3, .dead), (4, .dead), (5, .dead), (6, .dead), (7, .dead), (8, .dead), (9, .dead), (10, .dead), (11, .dead), (12, .dead), (13, .dead), (14, .dead), (15, .row 3 m15)], nx := 16, nt := 37 }
structure S34a where
  t25 : Int
  m15 : List (List AV)
inductive T34a where
  | x0 (t25 : Int) (m15 : List (List AV))
noncomputable def stp34a (t5 : Int) (t7 : Nat) (ws : List (List AV)) (t24 t25 : Int) (m15 : List (List AV)) : Lp S34a T34a :=
  cond (decide (t25 < t24)) (cond (inb t25 ws.length) (cond (inb (fI (ws.getD t25.toNat []) 0) t7 && (0 + (fI (ws.getD t25.toNat []) 0).toNat).blt m15.length) (cond ((0 + (fI (ws.getD t25.toNat []) 0).toNat).blt m15.length) (cond (inb (fI (ws.getD t25.toNat []) 0) t7 && (0 + (fI (ws.getD t25.toNat []) 0).toNat).blt m15.length) (cond ((0 + (fI (ws.getD t25.toNat []) 0).toNat).blt m15.length) (.go ⟨IntKind.i64.wrap (t25 + 1), m15.set (0 + (fI (ws.getD t25.toNat []) 0).toNat) (setCs (m15.getD (0 + (fI (ws.getD t25.toNat []) 0).toNat) []) 0 [AV.i IntKind.i64 (IntKind.i64.wrap (fI (m15.getD (0 + (fI (ws.getD t25.toNat []) 0).toNat) []) 0 + 1))])⟩) (.bad)) (.bad)) (.bad)) (.bad)) (.bad)) (.out (.x0 t25 m15))
noncomputable def o34a_0 (t5 : Int) (t7 : Nat) (ws : List (List AV)) (t24 t25 : Int) (m15 : List (List AV)) : St :=
  { t := [(4, .nl), (5, .i .i64 t5), (7, .sl 15 0 t7), (23, .rs 3 ws), (24, .i .i64 t24), (25, .i .i64 t25)], m := [(0, .dead), (1, .dead), (2, .dead), (3, .dead), (4, .dead), (5, .dead), (6, .dead), (7, .dead), (8, .dead), (9, .dead), (10, .dead), (11, .dead), (12, .dead), (13, .dead), (14, .dead), (15, .row 3 m15)], nx := 16, nt := 37 }
noncomputable def ou34a (t5 : Int) (t7 : Nat) (ws : List (List AV)) (t24 : Int) : T34a → Ex × St
  | .x0 t25 m15 => (.ext 0, o34a_0 t5 t7 ws t24 t25 m15)
noncomputable def r34a (t5 : Int) (t7 : Nat) (ws : List (List AV)) (t24 t25 : Int) (m15 : List (List AV)) : Option T34a := run (fun x => stp34a t5 t7 ws t24 x.t25 x.m15) (⟨t25, m15⟩ : S34a)
noncomputable def i34a_0 (t5 : Int) (t7 : Nat) (ws : List (List AV)) (t24 t25 : Int) (m15 : List (List AV)) : Bool := match r34a t5 t7 ws t24 t25 m15 with
  | some (.x0 _ _) => true
  | _ => false
noncomputable def v34a_0_t25 (t5 : Int) (t7 : Nat) (ws : List (List AV)) (t24 t25 : Int) (m15 : List (List AV)) : Int := match r34a t5 t7 ws t24 t25 m15 with
  | some (.x0 t25 _) => t25
  | _ => default
noncomputable def v34a_0_m15 (t5 : Int) (t7 : Nat) (ws : List (List AV)) (t24 t25 : Int) (m15 : List (List AV)) : List (List AV) := match r34a t5 t7 ws t24 t25 m15 with
  | some (.x0 _ m15) => m15
  | _ => default
noncomputable def l34a (st : St) : Option (List (Bool × Ex × St)) := match normW Try.prog [(4, none), (5, none), (7, none), (23, none), (24, none), (25, none)] 16 st with
  | some ([.nl, .i .i64 t5, .sl 15 0 t7, .rs 3 ws, .i .i64 t24, .i .i64 t25], [(0, .dead), (1, .dead), (2, .dead), (3, .dead), (4, .dead), (5, .dead), (6, .dead), (7, .dead), (8, .dead), (9, .dead), (10, .dead), (11, .dead), (12, .dead), (13, .dead), (14, .dead), (15, .row 3 m15)], 16, 37) => some [(i34a_0 t5 t7 ws t24 t25 m15, .ext 0, o34a_0 t5 t7 ws t24 (v34a_0_t25 t5 t7 ws t24 t25 m15) (v34a_0_m15 t5 t7 ws t24 t25 m15))]
  | _ => none
noncomputable def L34 : LSpec := fun p st => match p with
  | [false, true, false, true, true, true, true] => l34a st
  | _ => none
theorem is34a_0 (t5 : Int) (t7 : Nat) (ws : List (List AV)) (t24 t25 : Int) (m15 : List (List AV)) (h : i34a_0 t5 t7 ws t24 t25 m15 = true) : r34a t5 t7 ws t24 t25 m15 = some (.x0 (v34a_0_t25 t5 t7 ws t24 t25 m15) (v34a_0_m15 t5 t7 ws t24 t25 m15)) := by
  unfold i34a_0 at h
  unfold v34a_0_t25 v34a_0_m15
  generalize r34a t5 t7 ws t24 t25 m15 = r at h ⊢
  rcases r with _ | y
  · cases h
  · cases y <;> first | rfl | cases h
theorem round34a (t5 : Int) (t7 : Nat) (ws : List (List AV)) (t24 t25 : Int) (m15 : List (List AV)) : round Try.prog SS12 (ro 8) L34 lp34a [false, true, false, true, true, true, true] [(4, none), (5, none), (7, none), (23, none), (24, none), (25, none)] 16 (s34a t5 t7 ws t24 t25 m15) =
    cond (decide (t25 < t24)) (cond (inb t25 ws.length) (cond (inb (fI (ws.getD t25.toNat []) 0) t7 && (0 + (fI (ws.getD t25.toNat []) 0).toNat).blt m15.length) (cond ((0 + (fI (ws.getD t25.toNat []) 0).toNat).blt m15.length) (cond (inb (fI (ws.getD t25.toNat []) 0) t7 && (0 + (fI (ws.getD t25.toNat []) 0).toNat).blt m15.length) (cond ((0 + (fI (ws.getD t25.toNat []) 0).toNat).blt m15.length) (some (.nrm, s34a t5 t7 ws t24 (IntKind.i64.wrap (t25 + 1)) (m15.set (0 + (fI (ws.getD t25.toNat []) 0).toNat) (setCs (m15.getD (0 + (fI (ws.getD t25.toNat []) 0).toNat) []) 0 [AV.i IntKind.i64 (IntKind.i64.wrap (fI (m15.getD (0 + (fI (ws.getD t25.toNat []) 0).toNat) []) 0 + 1))])))) (none)) (none)) (none)) (none)) (none)) (some (.ext 0, o34a_0 t5 t7 ws t24 t25 m15)) := by kernel_rfl
theorem rnd34a (t5 : Int) (t7 : Nat) (ws : List (List AV)) (t24 : Int) (x : S34a) : round Try.prog SS12 (ro 8) L34 lp34a [false, true, false, true, true, true, true] [(4, none), (5, none), (7, none), (23, none), (24, none), (25, none)] 16 ((fun x => s34a t5 t7 ws t24 x.t25 x.m15) x) = toR (fun x => s34a t5 t7 ws t24 x.t25 x.m15) (ou34a t5 t7 ws t24) (stp34a t5 t7 ws t24 x.t25 x.m15) := by
  refine (round34a _ _ _ _ _ _ ).trans ?_
  unfold stp34a
  simp only [toR_cond]
  rfl
theorem lok34a {st : St} {outs : List (Bool × Ex × St)} {e : Ex} {s : St} (hl : l34a st = some outs) (hch : Chosen outs e s) :
    ∃ keep nb, 0 ≤ nb ∧ LB Try.prog SS12 (ro 8) L34 lp34a [false, true, false, true, true, true, true] keep nb st e s := by
  unfold l34a at hl
  split at hl
  · rename_i t5 t7 ws t24 t25 m15 hno
    cases hl
    have hno := normW_norm hno
    refine ⟨_, _, ?_, .enter hno ?_⟩
    · decide
    have main := fun y h => LB_run (x := (⟨t25, m15⟩ : S34a)) (y := y) (nb := 16) (fun y => by cases y <;> simp [ou34a]) (rnd34a t5 t7 ws t24) h
    obtain ⟨x, hx, hg, rfl, rfl⟩ := chosen_any hch
    simp only [List.mem_cons, List.not_mem_nil, or_false] at hx
    subst hx
    exact main _ (is34a_0 t5 t7 ws t24 t25 m15 hg)
  · cases hl
theorem L34_ok (q : Pl) (c : Code) (hq : locate c34 q.reverse = some (.loop c)) (st : St) (outs : List (Bool × Ex × St)) (e : Ex) (s : St) (hl : L34 q st = some outs) (hch : Chosen outs e s) :
    ∃ keep nb, 0 ≤ nb ∧ LB Try.prog SS12 (ro 8) L34 c q keep nb st e s := by
  unfold L34 at hl
  split at hl
  · have : locate c34 ([false, true, false, true, true, true, true] : Pl).reverse = some (.loop lp34a) := by kernel_rfl
    rw [this] at hq
    cases hq
    exact lok34a hl hch
  · cases hl
theorem lok34 : LOK Try.prog SS12 (ro 8) L34 0 false c34 [] :=
  lok_lo L34_ok c34 [] false (locate_nil _) (by kernel_rfl)
noncomputable def t34 (ra rb rc : Int) (ps ws : List (List AV)) : Tr ((List (List AV)) × (Int)) :=
  .cn (g29 ra rb rc ps) (.cn (w29_0 ra rb rc ps != 0) (.lf ([], w29_0 ra rb rc ps)) (.cn (g64 ra rb rc ps ws) (.cn (!w64_0 ra rb rc ps ws) (.lf ([], 8)) (.cn (decide ((↑ps.length : Int) = (↑ps.length : Int)) && (decide (0 ≤ (↑ps.length : Int)) && decide ((↑ps.length : Int) * (↑8 : Int) ≤ 140737488355328) && decide ((↑ps.length : Int) ≤ 9223372036854775807))) (.cn (i34a_0 0 (↑ps.length : Int).toNat ws (↑ws.length : Int) 0 (List.replicate (↑ps.length : Int).toNat [AV.i IntKind.i64 0])) (.cn ((0 + (↑ps.length : Int).toNat).ble (v34a_0_m15 0 (↑ps.length : Int).toNat ws (↑ws.length : Int) 0 (List.replicate (↑ps.length : Int).toNat [AV.i IntKind.i64 0])).length) (.lf (bif (↑ps.length : Int).toNat.beq (v34a_0_m15 0 (↑ps.length : Int).toNat ws (↑ws.length : Int) 0 (List.replicate (↑ps.length : Int).toNat [AV.i IntKind.i64 0])).length then v34a_0_m15 0 (↑ps.length : Int).toNat ws (↑ws.length : Int) 0 (List.replicate (↑ps.length : Int).toNat [AV.i IntKind.i64 0]) else List.take (↑ps.length : Int).toNat (List.drop 0 (v34a_0_m15 0 (↑ps.length : Int).toNat ws (↑ws.length : Int) 0 (List.replicate (↑ps.length : Int).toNat [AV.i IntKind.i64 0]))), 0)) (.nn)) (.nn)) (.nn))) (.nn))) (.nn)
noncomputable def g34 (ra rb rc : Int) (ps ws : List (List AV)) : Bool := (t34 ra rb rc ps ws).g
noncomputable def w34_0 (ra rb rc : Int) (ps ws : List (List AV)) : List (List AV) := (t34 ra rb rc ps ws).val.1
noncomputable def w34_1 (ra rb rc : Int) (ps ws : List (List AV)) : Int := (t34 ra rb rc ps ws).val.2
noncomputable def a34 (ra rb rc : Int) (ps ws : List (List AV)) : Tr AV :=
  .cn (g29 ra rb rc ps) (.cn (w29_0 ra rb rc ps != 0) (.lf (.tup [.nl, .i .i64 (w29_0 ra rb rc ps)])) (.cn (g64 ra rb rc ps ws) (.cn (!w64_0 ra rb rc ps ws) (.lf (.tup [.nl, .i .i64 8])) (.cn (decide ((↑ps.length : Int) = (↑ps.length : Int)) && (decide (0 ≤ (↑ps.length : Int)) && decide ((↑ps.length : Int) * (↑8 : Int) ≤ 140737488355328) && decide ((↑ps.length : Int) ≤ 9223372036854775807))) (.cn (i34a_0 0 (↑ps.length : Int).toNat ws (↑ws.length : Int) 0 (List.replicate (↑ps.length : Int).toNat [AV.i IntKind.i64 0])) (.cn ((0 + (↑ps.length : Int).toNat).ble (v34a_0_m15 0 (↑ps.length : Int).toNat ws (↑ws.length : Int) 0 (List.replicate (↑ps.length : Int).toNat [AV.i IntKind.i64 0])).length) (.lf (.tup [.rs 3 (bif (↑ps.length : Int).toNat.beq (v34a_0_m15 0 (↑ps.length : Int).toNat ws (↑ws.length : Int) 0 (List.replicate (↑ps.length : Int).toNat [AV.i IntKind.i64 0])).length then v34a_0_m15 0 (↑ps.length : Int).toNat ws (↑ws.length : Int) 0 (List.replicate (↑ps.length : Int).toNat [AV.i IntKind.i64 0]) else List.take (↑ps.length : Int).toNat (List.drop 0 (v34a_0_m15 0 (↑ps.length : Int).toNat ws (↑ws.length : Int) 0 (List.replicate (↑ps.length : Int).toNat [AV.i IntKind.i64 0])))), .i .i64 0])) (.nn)) (.nn)) (.nn))) (.nn))) (.nn)
theorem eq34 (ra rb rc : Int) (ps ws : List (List AV)) : evF Try.prog SS12 (ro 8) L34 Try.f8 [.agg [.i .i64 ra, .i .i64 rb, .i .i64 rc, .rs 39 ps], .rs 3 ws] = (a34 ra rb rc ps ws).opt id := by kernel_rfl
theorem wk34 (ra rb rc : Int) (ps ws : List (List AV)) : (a34 ra rb rc ps ws).map (wkV [some 3, none]) = (t34 ra rb rc ps ws).map (fun (x : (List (List AV)) × (Int)) => (.tup [.rs 3 x.1, .i .i64 x.2] : AV)) := by kernel_rfl
theorem con34 (ra rb rc : Int) (ps ws : List (List AV)) (h : g34 ra rb rc ps ws = true) : Con Try.prog 8 [.agg [.i .i64 ra, .i .i64 rb, .i .i64 rc, .rs 39 ps], .rs 3 ws] [] (.tup [.rs 3 (w34_0 ra rb rc ps ws), .i .i64 (w34_1 ra rb rc ps ws)]) [] := by
  obtain ⟨v, h1, h2⟩ := Tr.soundW (eq34 ra rb rc ps ws) (wk34 ra rb rc ps ws) h
  have := (con_of SS12_ok mixed Try.func8 (c := c34) rfl (names 8 _ Try.func8) lok34 h1).wk [some 3, none]
  rw [h2] at this
  exact this
noncomputable def e34 (args : List AV) (rows : List Blk) : Option (Bool × AV × List Blk) := match args, rows with
  | [.agg [.i .i64 ra, .i .i64 rb, .i .i64 rc, .rs 39 ps], .rs 3 ws], [] => some (g34 ra rb rc ps ws, .tup [.rs 3 (w34_0 ra rb rc ps ws), .i .i64 (w34_1 ra rb rc ps ws)], [])
  | _, _ => none
theorem e34_ok (args : List AV) (rows : List Blk) (pre : Bool) (v : AV) (rows' : List Blk) (h : e34 args rows = some (pre, v, rows')) (hp : pre = true) : Con Try.prog 8 args rows v rows' := by
  unfold e34 at h
  split at h
  · cases h; exact con34 _ _ _ _ _ hp
  · cases h
-- SPEC 34
end Go.Proofs.Ytfbfohkgajeopac

set_option maxRecDepth 100000
set_option linter.unusedVariables false
namespace Go.Proofs.Ytfbfohkgajeopac
open Go Go.Ev
noncomputable def SS10 : Ev.Spec := insS 24 e71 (insS 26 e55 (insS 23 e52 (insS 25 e51 (insS 22 e50 (S0)))))
theorem SS10_ok : SpecOK Try.prog SS10 := insS_ok e71_ok (insS_ok e55_ok (insS_ok e52_ok (insS_ok e51_ok (insS_ok e50_ok (S0_ok)))))
end Go.Proofs.Ytfbfohkgajeopac

set_option maxRecDepth 100000
set_option maxHeartbeats 0
set_option linter.unusedVariables false
namespace Go.Proofs.Ytfbfohkgajeopac
open Go Go.Ev

noncomputable def c40 : Code := match Try.f10.body with | some c => c | _ => .skip
noncomputable def lp40a : Code := loopAt c40 [true, true, true, true, true, true, false, false]
noncomputable def s40a (x ra rb rc : Int) (ps : List (List AV)) (t5 : Int) (t6 t9 : List (List AV)) (m14_0 m14_1 : Int) : St :=
  { t := [(1, .i .i64 x), (2, .rp [.int .i64, .int .i64, .int .i64, .sl 39] [.i .i64 ra, .i .i64 rb, .i .i64 rc, .rs 39 ps] 0), (4, .nl), (5, .i .i64 t5), (6, .rs 94 t6), (8, .p 14 0 0), (9, .gv 15 3 t9)], m := [(15, .fr 3), (0, .dead), (1, .dead), (2, .dead), (3, .dead), (4, .dead), (5, .dead), (6, .dead), (7, .dead), (8, .dead), (9, .dead), (10, .dead), (11, .dead), (12, .dead), (13, .dead), (14, .row 74 [[.i .i64 m14_0, .i .i64 m14_1]])], nx := 16, nt := 67 }
noncomputable def lp40aa : Code := loopAt c40 [true, true, true, true, true, true, false, false, false, true, false, true, false]
noncomputable def s40aa (x ra rb rc : Int) (ps : List (List AV)) (t5 : Int) (t6 t9 t36 : List (List AV)) (t37 t38 m14_0 m14_1 : Int) : St :=
  { t := [(1, .i .i64 x), (2, .rp [.int .i64, .int .i64, .int .i64, .sl 39] [.i .i64 ra, .i .i64 rb, .i .i64 rc, .rs 39 ps] 0), (4, .nl), (5, .i .i64 t5), (6, .rs 94 t6), (8, .p 14 0 0), (9, .gv 15 3 t9), (36, .rs 39 t36), (37, .i .i64 t37), (38, .i .i64 t38)], m := [(15, .fr 3), (0, .dead), (1, .dead), (2, .dead), (3, .dead), (4, .dead), (5, .dead), (6, .dead), (7, .dead), (8, .dead), (9, .dead), (10, .dead), (11, .dead), (12, .dead), (13, .dead), (14, .row 74 [[.i .i64 m14_0, .i .i64 m14_1]])], nx := 16, nt := 67 }
structure S40aa where
  x : Int
  t38 : Int
inductive T40aa where
  | x0 (t1 : Int) (t9' : List (List AV)) (t38 : Int) (m14_0' : Int) (m14_1' : Int)
noncomputable def stp40aa (ra rb rc : Int) (ps : List (List AV)) (t5 : Int) (t6 t9 t36 : List (List AV)) (t37 m14_0 m14_1 x t38 : Int) : Lp S40aa T40aa :=
  cond (decide (t38 < t37)) (cond (inb t38 t36.length) (cond (g71 m14_0 m14_1 (fS (t36.getD t38.toNat []) 0) (fI (t36.getD t38.toNat []) 1) (fI (t36.getD t38.toNat []) 2) (fI (t36.getD t38.toNat []) 3) (fI (t36.getD t38.toNat []) 4)) (cond (!w71_2 m14_0 m14_1 (fS (t36.getD t38.toNat []) 0) (fI (t36.getD t38.toNat []) 1) (fI (t36.getD t38.toNat []) 2) (fI (t36.getD t38.toNat []) 3) (fI (t36.getD t38.toNat []) 4)) (.go ⟨x, IntKind.i64.wrap (t38 + 1)⟩) (cond (g51 t6 (w71_0 m14_0 m14_1 (fS (t36.getD t38.toNat []) 0) (fI (t36.getD t38.toNat []) 1) (fI (t36.getD t38.toNat []) 2) (fI (t36.getD t38.toNat []) 3) (fI (t36.getD t38.toNat []) 4)) (w71_1 m14_0 m14_1 (fS (t36.getD t38.toNat []) 0) (fI (t36.getD t38.toNat []) 1) (fI (t36.getD t38.toNat []) 2) (fI (t36.getD t38.toNat []) 3) (fI (t36.getD t38.toNat []) 4))) (cond (decide (x ≥ w51_0 t6 (w71_0 m14_0 m14_1 (fS (t36.getD t38.toNat []) 0) (fI (t36.getD t38.toNat []) 1) (fI (t36.getD t38.toNat []) 2) (fI (t36.getD t38.toNat []) 3) (fI (t36.getD t38.toNat []) 4)) (w71_1 m14_0 m14_1 (fS (t36.getD t38.toNat []) 0) (fI (t36.getD t38.toNat []) 1) (fI (t36.getD t38.toNat []) 2) (fI (t36.getD t38.toNat []) 3) (fI (t36.getD t38.toNat []) 4)))) (.go ⟨IntKind.i64.wrap (x - w51_0 t6 (w71_0 m14_0 m14_1 (fS (t36.getD t38.toNat []) 0) (fI (t36.getD t38.toNat []) 1) (fI (t36.getD t38.toNat []) 2) (fI (t36.getD t38.toNat []) 3) (fI (t36.getD t38.toNat []) 4)) (w71_1 m14_0 m14_1 (fS (t36.getD t38.toNat []) 0) (fI (t36.getD t38.toNat []) 1) (fI (t36.getD t38.toNat []) 2) (fI (t36.getD t38.toNat []) 3) (fI (t36.getD t38.toNat []) 4))), IntKind.i64.wrap (t38 + 1)⟩) (cond ((t9.length + [[AV.i IntKind.i64 t38]].length).ble 9223372036854775807 && true) (cond (((t9.length + [[AV.i IntKind.i64 t38]].length) * 8).ble 140737488355328) (.out (.x0 x (t9 ++ [[AV.i IntKind.i64 t38]]) t38 (w71_0 m14_0 m14_1 (fS (t36.getD t38.toNat []) 0) (fI (t36.getD t38.toNat []) 1) (fI (t36.getD t38.toNat []) 2) (fI (t36.getD t38.toNat []) 3) (fI (t36.getD t38.toNat []) 4)) (w71_1 m14_0 m14_1 (fS (t36.getD t38.toNat []) 0) (fI (t36.getD t38.toNat []) 1) (fI (t36.getD t38.toNat []) 2) (fI (t36.getD t38.toNat []) 3) (fI (t36.getD t38.toNat []) 4)))) (.bad)) (.bad))) (.bad))) (.bad)) (.bad)) (.out (.x0 x t9 t38 m14_0 m14_1))
noncomputable def o40aa_0 (ra rb rc : Int) (ps : List (List AV)) (t5 : Int) (t6 t9 t36 : List (List AV)) (t37 m14_0 m14_1 t1 : Int) (t9' : List (List AV)) (t38 m14_0' m14_1' : Int) : St :=
  { t := [(1, .i .i64 t1), (2, .rp [.int .i64, .int .i64, .int .i64, .sl 39] [.i .i64 ra, .i .i64 rb, .i .i64 rc, .rs 39 ps] 0), (4, .nl), (5, .i .i64 t5), (6, .rs 94 t6), (8, .p 14 0 0), (9, .gv 15 3 t9'), (36, .rs 39 t36), (37, .i .i64 t37), (38, .i .i64 t38)], m := [(15, .fr 3), (0, .dead), (1, .dead), (2, .dead), (3, .dead), (4, .dead), (5, .dead), (6, .dead), (7, .dead), (8, .dead), (9, .dead), (10, .dead), (11, .dead), (12, .dead), (13, .dead), (14, .row 74 [[.i .i64 m14_0', .i .i64 m14_1']])], nx := 16, nt := 67 }
noncomputable def ou40aa (ra rb rc : Int) (ps : List (List AV)) (t5 : Int) (t6 t9 t36 : List (List AV)) (t37 m14_0 m14_1 : Int) : T40aa → Ex × St
  | .x0 t1 t9' t38 m14_0' m14_1' => (.ext 2, o40aa_0 ra rb rc ps t5 t6 t9 t36 t37 m14_0 m14_1 t1 t9' t38 m14_0' m14_1')
noncomputable def r40aa (ra rb rc : Int) (ps : List (List AV)) (t5 : Int) (t6 t9 t36 : List (List AV)) (t37 m14_0 m14_1 x t38 : Int) : Option T40aa := run (fun x => stp40aa ra rb rc ps t5 t6 t9 t36 t37 m14_0 m14_1 x.x x.t38) (⟨x, t38⟩ : S40aa)
noncomputable def i40aa_0 (ra rb rc : Int) (ps : List (List AV)) (t5 : Int) (t6 t9 t36 : List (List AV)) (t37 m14_0 m14_1 x t38 : Int) : Bool := match r40aa ra rb rc ps t5 t6 t9 t36 t37 m14_0 m14_1 x t38 with
  | some (.x0 _ _ _ _ _) => true
  | _ => false
noncomputable def v40aa_0_t1 (ra rb rc : Int) (ps : List (List AV)) (t5 : Int) (t6 t9 t36 : List (List AV)) (t37 m14_0 m14_1 x t38 : Int) : Int := match r40aa ra rb rc ps t5 t6 t9 t36 t37 m14_0 m14_1 x t38 with
  | some (.x0 t1 _ _ _ _) => t1
  | _ => default
noncomputable def v40aa_0_t9' (ra rb rc : Int) (ps : List (List AV)) (t5 : Int) (t6 t9 t36 : List (List AV)) (t37 m14_0 m14_1 x t38 : Int) : List (List AV) := match r40aa ra rb rc ps t5 t6 t9 t36 t37 m14_0 m14_1 x t38 with
  | some (.x0 _ t9' _ _ _) => t9'
  | _ => default
noncomputable def v40aa_0_t38 (ra rb rc : Int) (ps : List (List AV)) (t5 : Int) (t6 t9 t36 : List (List AV)) (t37 m14_0 m14_1 x t38 : Int) : Int := match r40aa ra rb rc ps t5 t6 t9 t36 t37 m14_0 m14_1 x t38 with
  | some (.x0 _ _ t38 _ _) => t38
  | _ => default
noncomputable def v40aa_0_m14_0' (ra rb rc : Int) (ps : List (List AV)) (t5 : Int) (t6 t9 t36 : List (List AV)) (t37 m14_0 m14_1 x t38 : Int) : Int := match r40aa ra rb rc ps t5 t6 t9 t36 t37 m14_0 m14_1 x t38 with
  | some (.x0 _ _ _ m14_0' _) => m14_0'
  | _ => default
noncomputable def v40aa_0_m14_1' (ra rb rc : Int) (ps : List (List AV)) (t5 : Int) (t6 t9 t36 : List (List AV)) (t37 m14_0 m14_1 x t38 : Int) : Int := match r40aa ra rb rc ps t5 t6 t9 t36 t37 m14_0 m14_1 x t38 with
  | some (.x0 _ _ _ _ m14_1') => m14_1'
  | _ => default
noncomputable def l40aa (st : St) : Option (List (Bool × Ex × St)) := match normW Try.prog [(1, none), (2, none), (4, none), (5, none), (6, none), (8, none), (9, some 3), (36, none), (37, none), (38, none)] 15 st with
  | some ([.i .i64 x, .rp [.int .i64, .int .i64, .int .i64, .sl 39] [.i .i64 ra, .i .i64 rb, .i .i64 rc, .rs 39 ps] 0, .nl, .i .i64 t5, .rs 94 t6, .p 14 0 0, .gv 15 3 t9, .rs 39 t36, .i .i64 t37, .i .i64 t38], [(15, .fr 3), (0, .dead), (1, .dead), (2, .dead), (3, .dead), (4, .dead), (5, .dead), (6, .dead), (7, .dead), (8, .dead), (9, .dead), (10, .dead), (11, .dead), (12, .dead), (13, .dead), (14, .row 74 [[.i .i64 m14_0, .i .i64 m14_1]])], 16, 67) => some [(i40aa_0 ra rb rc ps t5 t6 t9 t36 t37 m14_0 m14_1 x t38, .ext 2, o40aa_0 ra rb rc ps t5 t6 t9 t36 t37 m14_0 m14_1 (v40aa_0_t1 ra rb rc ps t5 t6 t9 t36 t37 m14_0 m14_1 x t38) (v40aa_0_t9' ra rb rc ps t5 t6 t9 t36 t37 m14_0 m14_1 x t38) (v40aa_0_t38 ra rb rc ps t5 t6 t9 t36 t37 m14_0 m14_1 x t38) (v40aa_0_m14_0' ra rb rc ps t5 t6 t9 t36 t37 m14_0 m14_1 x t38) (v40aa_0_m14_1' ra rb rc ps t5 t6 t9 t36 t37 m14_0 m14_1 x t38))]
  | _ => none
structure S40a where
  x : Int
  t9 : List (List AV)
  m14_0 : Int
  m14_1 : Int
inductive T40a where
  | x0 (t1 : Int) (t9 : List (List AV)) (m14_0 : Int) (m14_1 : Int)
noncomputable def stp40a (ra rb rc : Int) (ps : List (List AV)) (t5 : Int) (t6 : List (List AV)) (x : Int) (t9 : List (List AV)) (m14_0 m14_1 : Int) : Lp S40a T40a :=
  cond (decide (m14_0 > 0)) (cond (i40aa_0 ra rb rc ps t5 t6 t9 ps (↑ps.length : Int) m14_0 m14_1 x 0) (.go ⟨v40aa_0_t1 ra rb rc ps t5 t6 t9 ps (↑ps.length : Int) m14_0 m14_1 x 0, v40aa_0_t9' ra rb rc ps t5 t6 t9 ps (↑ps.length : Int) m14_0 m14_1 x 0, v40aa_0_m14_0' ra rb rc ps t5 t6 t9 ps (↑ps.length : Int) m14_0 m14_1 x 0, v40aa_0_m14_1' ra rb rc ps t5 t6 t9 ps (↑ps.length : Int) m14_0 m14_1 x 0⟩) (.bad)) (.out (.x0 x t9 m14_0 m14_1))
noncomputable def o40a_0 (ra rb rc : Int) (ps : List (List AV)) (t5 : Int) (t6 : List (List AV)) (t1 : Int) (t9 : List (List AV)) (m14_0 m14_1 : Int) : St :=
  { t := [(1, .i .i64 t1), (2, .rp [.int .i64, .int .i64, .int .i64, .sl 39] [.i .i64 ra, .i .i64 rb, .i .i64 rc, .rs 39 ps] 0), (4, .nl), (5, .i .i64 t5), (6, .rs 94 t6), (8, .p 14 0 0), (9, .gv 15 3 t9)], m := [(15, .fr 3), (0, .dead), (1, .dead), (2, .dead), (3, .dead), (4, .dead), (5, .dead), (6, .dead), (7, .dead), (8, .dead), (9, .dead), (10, .dead), (11, .dead), (12, .dead), (13, .dead), (14, .row 74 [[.i .i64 m14_0, .i .i64 m14_1]])], nx := 16, nt := 67 }
noncomputable def ou40a (ra rb rc : Int) (ps : List (List AV)) (t5 : Int) (t6 : List (List AV)) : T40a → Ex × St
  | .x0 t1 t9 m14_0 m14_1 => (.ext 0, o40a_0 ra rb rc ps t5 t6 t1 t9 m14_0 m14_1)
noncomputable def r40a (ra rb rc : Int) (ps : List (List AV)) (t5 : Int) (t6 : List (List AV)) (x : Int) (t9 : List (List AV)) (m14_0 m14_1 : Int) : Option T40a := run (fun x => stp40a ra rb rc ps t5 t6 x.x x.t9 x.m14_0 x.m14_1) (⟨x, t9, m14_0, m14_1⟩ : S40a)
noncomputable def i40a_0 (ra rb rc : Int) (ps : List (List AV)) (t5 : Int) (t6 : List (List AV)) (x : Int) (t9 : List (List AV)) (m14_0 m14_1 : Int) : Bool := match r40a ra rb rc ps t5 t6 x t9 m14_0 m14_1 with
  | some (.x0 _ _ _ _) => true
  | _ => false
noncomputable def v40a_0_t1 (ra rb rc : Int) (ps : List (List AV)) (t5 : Int) (t6 : List (List AV)) (x : Int) (t9 : List (List AV)) (m14_0 m14_1 : Int) : Int := match r40a ra rb rc ps t5 t6 x t9 m14_0 m14_1 with
  | some (.x0 t1 _ _ _) => t1
  | _ => default
noncomputable def v40a_0_t9 (ra rb rc : Int) (ps : List (List AV)) (t5 : Int) (t6 : List (List AV)) (x : Int) (t9 : List (List AV)) (m14_0 m14_1 : Int) : List (List AV) := match r40a ra rb rc ps t5 t6 x t9 m14_0 m14_1 with
  | some (.x0 _ t9 _ _) => t9
  | _ => default
noncomputable def v40a_0_m14_0 (ra rb rc : Int) (ps : List (List AV)) (t5 : Int) (t6 : List (List AV)) (x : Int) (t9 : List (List AV)) (m14_0 m14_1 : Int) : Int := match r40a ra rb rc ps t5 t6 x t9 m14_0 m14_1 with
  | some (.x0 _ _ m14_0 _) => m14_0
  | _ => default
noncomputable def v40a_0_m14_1 (ra rb rc : Int) (ps : List (List AV)) (t5 : Int) (t6 : List (List AV)) (x : Int) (t9 : List (List AV)) (m14_0 m14_1 : Int) : Int := match r40a ra rb rc ps t5 t6 x t9 m14_0 m14_1 with
  | some (.x0 _ _ _ m14_1) => m14_1
  | _ => default
noncomputable def l40a (st : St) : Option (List (Bool × Ex × St)) := match normW Try.prog [(1, none), (2, none), (4, none), (5, none), (6, none), (8, none), (9, some 3)] 15 st with
  | some ([.i .i64 x, .rp [.int .i64, .int .i64, .int .i64, .sl 39] [.i .i64 ra, .i .i64 rb, .i .i64 rc, .rs 39 ps] 0, .nl, .i .i64 t5, .rs 94 t6, .p 14 0 0, .gv 15 3 t9], [(15, .fr 3), (0, .dead), (1, .dead), (2, .dead), (3, .dead), (4, .dead), (5, .dead), (6, .dead), (7, .dead), (8, .dead), (9, .dead), (10, .dead), (11, .dead), (12, .dead), (13, .dead), (14, .row 74 [[.i .i64 m14_0, .i .i64 m14_1]])], 16, 67) => some [(i40a_0 ra rb rc ps t5 t6 x t9 m14_0 m14_1, .ext 0, o40a_0 ra rb rc ps t5 t6 (v40a_0_t1 ra rb rc ps t5 t6 x t9 m14_0 m14_1) (v40a_0_t9 ra rb rc ps t5 t6 x t9 m14_0 m14_1) (v40a_0_m14_0 ra rb rc ps t5 t6 x t9 m14_0 m14_1) (v40a_0_m14_1 ra rb rc ps t5 t6 x t9 m14_0 m14_1))]
  | _ => none
noncomputable def L40 : LSpec := fun p st => match p with
  | [false, true, false, true, false, false, false, true, true, true, true, true, true] => l40aa st
  | [false, false, true, true, true, true, true, true] => l40a st
  | _ => none
theorem is40aa_0 (ra rb rc : Int) (ps : List (List AV)) (t5 : Int) (t6 t9 t36 : List (List AV)) (t37 m14_0 m14_1 x t38 : Int) (h : i40aa_0 ra rb rc ps t5 t6 t9 t36 t37 m14_0 m14_1 x t38 = true) : r40aa ra rb rc ps t5 t6 t9 t36 t37 m14_0 m14_1 x t38 = some (.x0 (v40aa_0_t1 ra rb rc ps t5 t6 t9 t36 t37 m14_0 m14_1 x t38) (v40aa_0_t9' ra rb rc ps t5 t6 t9 t36 t37 m14_0 m14_1 x t38) (v40aa_0_t38 ra rb rc ps t5 t6 t9 t36 t37 m14_0 m14_1 x t38) (v40aa_0_m14_0' ra rb rc ps t5 t6 t9 t36 t37 m14_0 m14_1 x t38) (v40aa_0_m14_1' ra rb rc ps t5 t6 t9 t36 t37 m14_0 m14_1 x t38)) := by
  unfold i40aa_0 at h
  unfold v40aa_0_t1 v40aa_0_t9' v40aa_0_t38 v40aa_0_m14_0' v40aa_0_m14_1'
  generalize r40aa ra rb rc ps t5 t6 t9 t36 t37 m14_0 m14_1 x t38 = r at h ⊢
  rcases r with _ | y
  · cases h
  · cases y <;> first | rfl | cases h
theorem round40aa (x ra rb rc : Int) (ps : List (List AV)) (t5 : Int) (t6 t9 t36 : List (List AV)) (t37 t38 m14_0 m14_1 : Int) : round Try.prog SS10 (ro 10) L40 lp40aa [false, true, false, true, false, false, false, true, true, true, true, true, true] [(1, none), (2, none), (4, none), (5, none), (6, none), (8, none), (9, some 3), (36, none), (37, none), (38, none)] 15 (s40aa x ra rb rc ps t5 t6 t9 t36 t37 t38 m14_0 m14_1) =
    cond (decide (t38 < t37)) (cond (inb t38 t36.length) (cond (g71 m14_0 m14_1 (fS (t36.getD t38.toNat []) 0) (fI (t36.getD t38.toNat []) 1) (fI (t36.getD t38.toNat []) 2) (fI (t36.getD t38.toNat []) 3) (fI (t36.getD t38.toNat []) 4)) (cond (!w71_2 m14_0 m14_1 (fS (t36.getD t38.toNat []) 0) (fI (t36.getD t38.toNat []) 1) (fI (t36.getD t38.toNat []) 2) (fI (t36.getD t38.toNat []) 3) (fI (t36.getD t38.toNat []) 4)) (some (.nrm, s40aa x ra rb rc ps t5 t6 t9 t36 t37 (IntKind.i64.wrap (t38 + 1)) m14_0 m14_1)) (cond (g51 t6 (w71_0 m14_0 m14_1 (fS (t36.getD t38.toNat []) 0) (fI (t36.getD t38.toNat []) 1) (fI (t36.getD t38.toNat []) 2) (fI (t36.getD t38.toNat []) 3) (fI (t36.getD t38.toNat []) 4)) (w71_1 m14_0 m14_1 (fS (t36.getD t38.toNat []) 0) (fI (t36.getD t38.toNat []) 1) (fI (t36.getD t38.toNat []) 2) (fI (t36.getD t38.toNat []) 3) (fI (t36.getD t38.toNat []) 4))) (cond (decide (x ≥ w51_0 t6 (w71_0 m14_0 m14_1 (fS (t36.getD t38.toNat []) 0) (fI (t36.getD t38.toNat []) 1) (fI (t36.getD t38.toNat []) 2) (fI (t36.getD t38.toNat []) 3) (fI (t36.getD t38.toNat []) 4)) (w71_1 m14_0 m14_1 (fS (t36.getD t38.toNat []) 0) (fI (t36.getD t38.toNat []) 1) (fI (t36.getD t38.toNat []) 2) (fI (t36.getD t38.toNat []) 3) (fI (t36.getD t38.toNat []) 4)))) (some (.nrm, s40aa (IntKind.i64.wrap (x - w51_0 t6 (w71_0 m14_0 m14_1 (fS (t36.getD t38.toNat []) 0) (fI (t36.getD t38.toNat []) 1) (fI (t36.getD t38.toNat []) 2) (fI (t36.getD t38.toNat []) 3) (fI (t36.getD t38.toNat []) 4)) (w71_1 m14_0 m14_1 (fS (t36.getD t38.toNat []) 0) (fI (t36.getD t38.toNat []) 1) (fI (t36.getD t38.toNat []) 2) (fI (t36.getD t38.toNat []) 3) (fI (t36.getD t38.toNat []) 4)))) ra rb rc ps t5 t6 t9 t36 t37 (IntKind.i64.wrap (t38 + 1)) m14_0 m14_1)) (cond ((t9.length + [[AV.i IntKind.i64 t38]].length).ble 9223372036854775807 && true) (cond (((t9.length + [[AV.i IntKind.i64 t38]].length) * 8).ble 140737488355328) (some (.ext 2, o40aa_0 ra rb rc ps t5 t6 t9 t36 t37 m14_0 m14_1 x (t9 ++ [[AV.i IntKind.i64 t38]]) t38 (w71_0 m14_0 m14_1 (fS (t36.getD t38.toNat []) 0) (fI (t36.getD t38.toNat []) 1) (fI (t36.getD t38.toNat []) 2) (fI (t36.getD t38.toNat []) 3) (fI (t36.getD t38.toNat []) 4)) (w71_1 m14_0 m14_1 (fS (t36.getD t38.toNat []) 0) (fI (t36.getD t38.toNat []) 1) (fI (t36.getD t38.toNat []) 2) (fI (t36.getD t38.toNat []) 3) (fI (t36.getD t38.toNat []) 4)))) (none)) (none))) (none))) (none)) (none)) (some (.ext 2, o40aa_0 ra rb rc ps t5 t6 t9 t36 t37 m14_0 m14_1 x t9 t38 m14_0 m14_1)) := by kernel_rfl
theorem rnd40aa (ra rb rc : Int) (ps : List (List AV)) (t5 : Int) (t6 t9 t36 : List (List AV)) (t37 m14_0 m14_1 : Int) (x : S40aa) : round Try.prog SS10 (ro 10) L40 lp40aa [false, true, false, true, false, false, false, true, true, true, true, true, true] [(1, none), (2, none), (4, none), (5, none), (6, none), (8, none), (9, some 3), (36, none), (37, none), (38, none)] 15 ((fun x => s40aa x.x ra rb rc ps t5 t6 t9 t36 t37 x.t38 m14_0 m14_1) x) = toR (fun x => s40aa x.x ra rb rc ps t5 t6 t9 t36 t37 x.t38 m14_0 m14_1) (ou40aa ra rb rc ps t5 t6 t9 t36 t37 m14_0 m14_1) (stp40aa ra rb rc ps t5 t6 t9 t36 t37 m14_0 m14_1 x.x x.t38) := by
  refine (round40aa _ _ _ _ _ _ _ _ _ _ _ _ _ ).trans ?_
  unfold stp40aa
  simp only [toR_cond]
  rfl
theorem lok40aa {st : St} {outs : List (Bool × Ex × St)} {e : Ex} {s : St} (hl : l40aa st = some outs) (hch : Chosen outs e s) :
    ∃ keep nb, 0 ≤ nb ∧ LB Try.prog SS10 (ro 10) L40 lp40aa [false, true, false, true, false, false, false, true, true, true, true, true, true] keep nb st e s := by
  unfold l40aa at hl
  split at hl
  · rename_i x ra rb rc ps t5 t6 t9 t36 t37 t38 m14_0 m14_1 hno
    cases hl
    have hno := normW_norm hno
    refine ⟨_, _, ?_, .enter hno ?_⟩
    · decide
    have main := fun y h => LB_run (x := (⟨x, t38⟩ : S40aa)) (y := y) (nb := 15) (fun y => by cases y <;> simp [ou40aa]) (rnd40aa ra rb rc ps t5 t6 t9 t36 t37 m14_0 m14_1) h
    obtain ⟨x, hx, hg, rfl, rfl⟩ := chosen_any hch
    simp only [List.mem_cons, List.not_mem_nil, or_false] at hx
    subst hx
    exact main _ (is40aa_0 ra rb rc ps t5 t6 t9 t36 t37 m14_0 m14_1 x t38 hg)
  · cases hl
theorem is40a_0 (ra rb rc : Int) (ps : List (List AV)) (t5 : Int) (t6 : List (List AV)) (x : Int) (t9 : List (List AV)) (m14_0 m14_1 : Int) (h : i40a_0 ra rb rc ps t5 t6 x t9 m14_0 m14_1 = true) : r40a ra rb rc ps t5 t6 x t9 m14_0 m14_1 = some (.x0 (v40a_0_t1 ra rb rc ps t5 t6 x t9 m14_0 m14_1) (v40a_0_t9 ra rb rc ps t5 t6 x t9 m14_0 m14_1) (v40a_0_m14_0 ra rb rc ps t5 t6 x t9 m14_0 m14_1) (v40a_0_m14_1 ra rb rc ps t5 t6 x t9 m14_0 m14_1)) := by
  unfold i40a_0 at h
  unfold v40a_0_t1 v40a_0_t9 v40a_0_m14_0 v40a_0_m14_1
  generalize r40a ra rb rc ps t5 t6 x t9 m14_0 m14_1 = r at h ⊢
  rcases r with _ | y
  · cases h
  · cases y <;> first | rfl | cases h
theorem round40a (x ra rb rc : Int) (ps : List (List AV)) (t5 : Int) (t6 t9 : List (List AV)) (m14_0 m14_1 : Int) : round Try.prog SS10 (ro 10) L40 lp40a [false, false, true, true, true, true, true, true] [(1, none), (2, none), (4, none), (5, none), (6, none), (8, none), (9, some 3)] 15 (s40a x ra rb rc ps t5 t6 t9 m14_0 m14_1) =
    cond (decide (m14_0 > 0)) (cond (i40aa_0 ra rb rc ps t5 t6 t9 ps (↑ps.length : Int) m14_0 m14_1 x 0) (some (.nrm, s40a (v40aa_0_t1 ra rb rc ps t5 t6 t9 ps (↑ps.length : Int) m14_0 m14_1 x 0) ra rb rc ps t5 t6 (v40aa_0_t9' ra rb rc ps t5 t6 t9 ps (↑ps.length : Int) m14_0 m14_1 x 0) (v40aa_0_m14_0' ra rb rc ps t5 t6 t9 ps (↑ps.length : Int) m14_0 m14_1 x 0) (v40aa_0_m14_1' ra rb rc ps t5 t6 t9 ps (↑ps.length : Int) m14_0 m14_1 x 0))) (none)) (some (.ext 0, o40a_0 ra rb rc ps t5 t6 x t9 m14_0 m14_1)) := by kernel_rfl
theorem rnd40a (ra rb rc : Int) (ps : List (List AV)) (t5 : Int) (t6 : List (List AV)) (x : S40a) : round Try.prog SS10 (ro 10) L40 lp40a [false, false, true, true, true, true, true, true] [(1, none), (2, none), (4, none), (5, none), (6, none), (8, none), (9, some 3)] 15 ((fun x => s40a x.x ra rb rc ps t5 t6 x.t9 x.m14_0 x.m14_1) x) = toR (fun x => s40a x.x ra rb rc ps t5 t6 x.t9 x.m14_0 x.m14_1) (ou40a ra rb rc ps t5 t6) (stp40a ra rb rc ps t5 t6 x.x x.t9 x.m14_0 x.m14_1) := by
  refine (round40a _ _ _ _ _ _ _ _ _ _ ).trans ?_
  unfold stp40a
  simp only [toR_cond]
  rfl
theorem lok40a {st : St} {outs : List (Bool × Ex × St)} {e : Ex} {s : St} (hl : l40a st = some outs) (hch : Chosen outs e s) :
    ∃ keep nb, 0 ≤ nb ∧ LB Try.prog SS10 (ro 10) L40 lp40a [false, false, true, true, true, true, true, true] keep nb st e s := by
  unfold l40a at hl
  split at hl
  · rename_i x ra rb rc ps t5 t6 t9 m14_0 m14_1 hno
    cases hl
    have hno := normW_norm hno
    refine ⟨_, _, ?_, .enter hno ?_⟩
    · decide
    have main := fun y h => LB_run (x := (⟨x, t9, m14_0, m14_1⟩ : S40a)) (y := y) (nb := 15) (fun y => by cases y <;> simp [ou40a]) (rnd40a ra rb rc ps t5 t6) h
    obtain ⟨x, hx, hg, rfl, rfl⟩ := chosen_any hch
    simp only [List.mem_cons, List.not_mem_nil, or_false] at hx
    subst hx
    exact main _ (is40a_0 ra rb rc ps t5 t6 x t9 m14_0 m14_1 hg)
  · cases hl
theorem L40_ok (q : Pl) (c : Code) (hq : locate c40 q.reverse = some (.loop c)) (st : St) (outs : List (Bool × Ex × St)) (e : Ex) (s : St) (hl : L40 q st = some outs) (hch : Chosen outs e s) :
    ∃ keep nb, 0 ≤ nb ∧ LB Try.prog SS10 (ro 10) L40 c q keep nb st e s := by
  unfold L40 at hl
  split at hl
  · have : locate c40 ([false, true, false, true, false, false, false, true, true, true, true, true, true] : Pl).reverse = some (.loop lp40aa) := by kernel_rfl
    rw [this] at hq
    cases hq
    exact lok40aa hl hch
  · have : locate c40 ([false, false, true, true, true, true, true, true] : Pl).reverse = some (.loop lp40a) := by kernel_rfl
    rw [this] at hq
    cases hq
    exact lok40a hl hch
  · cases hl
theorem lok40 : LOK Try.prog SS10 (ro 10) L40 0 false c40 [] :=
  lok_lo L40_ok c40 [] false (locate_nil _) (by kernel_rfl)
noncomputable def t40 (ra rb rc : Int) (ps : List (List AV)) (x : Int) : Tr ((List (List AV)) × (Int)) :=
  .cn (g50 ra rb rc ps) (.cn (w50_1 ra rb rc ps != 0) (.lf ([], w50_1 ra rb rc ps)) (.cn (g51 (w50_0 ra rb rc ps) (w52_0 ra rb rc ps) (w52_1 ra rb rc ps)) (.cn (g55 x 0 (IntKind.i64.wrap (w51_0 (w50_0 ra rb rc ps) (w52_0 ra rb rc ps) (w52_1 ra rb rc ps) - 1))) (.cn (!w55_0 x 0 (IntKind.i64.wrap (w51_0 (w50_0 ra rb rc ps) (w52_0 ra rb rc ps) (w52_1 ra rb rc ps) - 1))) (.lf ([], 1)) (.cn (i40a_0 ra rb rc ps 0 (w50_0 ra rb rc ps) x [] (w52_0 ra rb rc ps) (w52_1 ra rb rc ps)) (.lf (v40a_0_t9 ra rb rc ps 0 (w50_0 ra rb rc ps) x [] (w52_0 ra rb rc ps) (w52_1 ra rb rc ps), 0)) (.nn))) (.nn)) (.nn))) (.nn)
noncomputable def g40 (ra rb rc : Int) (ps : List (List AV)) (x : Int) : Bool := (t40 ra rb rc ps x).g
noncomputable def w40_0 (ra rb rc : Int) (ps : List (List AV)) (x : Int) : List (List AV) := (t40 ra rb rc ps x).val.1
noncomputable def w40_1 (ra rb rc : Int) (ps : List (List AV)) (x : Int) : Int := (t40 ra rb rc ps x).val.2
noncomputable def a40 (ra rb rc : Int) (ps : List (List AV)) (x : Int) : Tr AV :=
  .cn (g50 ra rb rc ps) (.cn (w50_1 ra rb rc ps != 0) (.lf (.tup [.nl, .i .i64 (w50_1 ra rb rc ps)])) (.cn (g51 (w50_0 ra rb rc ps) (w52_0 ra rb rc ps) (w52_1 ra rb rc ps)) (.cn (g55 x 0 (IntKind.i64.wrap (w51_0 (w50_0 ra rb rc ps) (w52_0 ra rb rc ps) (w52_1 ra rb rc ps) - 1))) (.cn (!w55_0 x 0 (IntKind.i64.wrap (w51_0 (w50_0 ra rb rc ps) (w52_0 ra rb rc ps) (w52_1 ra rb rc ps) - 1))) (.lf (.tup [.nl, .i .i64 1])) (.cn (i40a_0 ra rb rc ps 0 (w50_0 ra rb rc ps) x [] (w52_0 ra rb rc ps) (w52_1 ra rb rc ps)) (.lf (.tup [.rs 3 (v40a_0_t9 ra rb rc ps 0 (w50_0 ra rb rc ps) x [] (w52_0 ra rb rc ps) (w52_1 ra rb rc ps)), .i .i64 0])) (.nn))) (.nn)) (.nn))) (.nn)
theorem eq40 (ra rb rc : Int) (ps : List (List AV)) (x : Int) : evF Try.prog SS10 (ro 10) L40 Try.f10 [.agg [.i .i64 ra, .i .i64 rb, .i .i64 rc, .rs 39 ps], .i .i64 x] = (a40 ra rb rc ps x).opt id := by kernel_rfl
theorem wk40 (ra rb rc : Int) (ps : List (List AV)) (x : Int) : (a40 ra rb rc ps x).map (wkV [some 3, none]) = (t40 ra rb rc ps x).map (fun (x : (List (List AV)) × (Int)) => (.tup [.rs 3 x.1, .i .i64 x.2] : AV)) := by kernel_rfl
theorem con40 (ra rb rc : Int) (ps : List (List AV)) (x : Int) (h : g40 ra rb rc ps x = true) : Con Try.prog 10 [.agg [.i .i64 ra, .i .i64 rb, .i .i64 rc, .rs 39 ps], .i .i64 x] [] (.tup [.rs 3 (w40_0 ra rb rc ps x), .i .i64 (w40_1 ra rb rc ps x)]) [] := by
  obtain ⟨v, h1, h2⟩ := Tr.soundW (eq40 ra rb rc ps x) (wk40 ra rb rc ps x) h
  have := (con_of SS10_ok mixed Try.func10 (c := c40) rfl (names 10 _ Try.func10) lok40 h1).wk [some 3, none]
  rw [h2] at this
  exact this
noncomputable def e40 (args : List AV) (rows : List Blk) : Option (Bool × AV × List Blk) := match args, rows with
  | [.agg [.i .i64 ra, .i .i64 rb, .i .i64 rc, .rs 39 ps], .i .i64 x], [] => some (g40 ra rb rc ps x, .tup [.rs 3 (w40_0 ra rb rc ps x), .i .i64 (w40_1 ra rb rc ps x)], [])
  | _, _ => none
theorem e40_ok (args : List AV) (rows : List Blk) (pre : Bool) (v : AV) (rows' : List Blk) (h : e40 args rows = some (pre, v, rows')) (hp : pre = true) : Con Try.prog 10 args rows v rows' := by
  unfold e40 at h
  split at h
  · cases h; exact con40 _ _ _ _ _ hp
  · cases h
-- SPEC 40
end Go.Proofs.Ytfbfohkgajeopac

set_option maxRecDepth 100000
set_option linter.unusedVariables false
namespace Go.Proofs.Ytfbfohkgajeopac
open Go Go.Ev

noncomputable def c42 : Code := match Try.f9.body with | some c => c | _ => .skip
noncomputable def lp42a : Code := loopAt c42 [true, true, true, true, true, false, true, false]
noncomputable def s42a (ra rb rc : Int) (ps : List (List AV)) (t4 t5 : Int) (t6 : List (List AV)) (t8 : Int) (ws : List (List AV)) (t31 t32 m18_0 m18_1 : Int) : St :=
  { t := [(2, .rp [.int .i64, .int .i64, .int .i64, .sl 39] [.i .i64 ra, .i .i64 rb, .i .i64 rc, .rs 39 ps] 0), (4, .i .i64 t4), (5, .i .i64 t5), (6, .rs 94 t6), (8, .i .i64 t8), (9, .p 18 0 0), (30, .rs 3 ws), (31, .i .i64 t31), (32, .i .i64 t32)], m := [(0, .dead), (1, .dead), (2, .dead), (3, .dead), (4, .dead), (5, .dead), (6, .dead), (7, .dead), (8, .dead), (9, .dead), (10, .dead), (11, .dead), (12, .dead), (13, .dead), (14, .dead), (15, .dead), (16, .dead), (17, .dead), (18, .row 74 [[.i .i64 m18_0, .i .i64 m18_1]])], nx := 19, nt := 70 }
noncomputable def lp42aa : Code := loopAt c42 [true, true, true, true, true, false, true, false, false, true, true, false, false, true, false, true, false]
noncomputable def s42aa (ra rb rc : Int) (ps : List (List AV)) (t4 t5 : Int) (t6 : List (List AV)) (t8 t11 : Int) (ws : List (List AV)) (t31 t32 : Int) (t39 : List (List AV)) (t40 t41 m18_0 m18_1 : Int) : St :=
  { t := [(2, .rp [.int .i64, .int .i64, .int .i64, .sl 39] [.i .i64 ra, .i .i64 rb, .i .i64 rc, .rs 39 ps] 0), (4, .i .i64 t4), (5, .i .i64 t5), (6, .rs 94 t6), (8, .i .i64 t8), (9, .p 18 0 0), (11, .i .i64 t11), (30, .rs 3 ws), (31, .i .i64 t31), (32, .i .i64 t32), (39, .rs 39 t39), (40, .i .i64 t40), (41, .i .i64 t41)], m := [(0, .dead), (1, .dead), (2, .dead), (3, .dead), (4, .dead), (5, .dead), (6, .dead), (7, .dead), (8, .dead), (9, .dead), (10, .dead), (11, .dead), (12, .dead), (13, .dead), (14, .dead), (15, .dead), (16, .dead), (17, .dead), (18, .row 74 [[.i .i64 m18_0, .i .i64 m18_1]])], nx := 19, nt := 70 }
structure S42aa where
  t8 : Int
  t41 : Int
inductive T42aa where
  | x0 (t8 : Int) (t41 : Int)
noncomputable def stp42aa (ra rb rc : Int) (ps : List (List AV)) (t4 t5 : Int) (t6 : List (List AV)) (t11 : Int) (ws : List (List AV)) (t31 t32 : Int) (t39 : List (List AV)) (t40 m18_0 m18_1 t8 t41 : Int) : Lp S42aa T42aa :=
  cond (decide (t41 < t40)) (cond (inb t41 t39.length) (cond (g71 m18_0 m18_1 (fS (t39.getD t41.toNat []) 0) (fI (t39.getD t41.toNat []) 1) (fI (t39.getD t41.toNat []) 2) (fI (t39.getD t41.toNat []) 3) (fI (t39.getD t41.toNat []) 4)) (cond (w71_2 m18_0 m18_1 (fS (t39.getD t41.toNat []) 0) (fI (t39.getD t41.toNat []) 1) (fI (t39.getD t41.toNat []) 2) (fI (t39.getD t41.toNat []) 3) (fI (t39.getD t41.toNat []) 4)) (cond (g51 t6 (w71_0 m18_0 m18_1 (fS (t39.getD t41.toNat []) 0) (fI (t39.getD t41.toNat []) 1) (fI (t39.getD t41.toNat []) 2) (fI (t39.getD t41.toNat []) 3) (fI (t39.getD t41.toNat []) 4)) (w71_1 m18_0 m18_1 (fS (t39.getD t41.toNat []) 0) (fI (t39.getD t41.toNat []) 1) (fI (t39.getD t41.toNat []) 2) (fI (t39.getD t41.toNat []) 3) (fI (t39.getD t41.toNat []) 4))) (.go ⟨IntKind.i64.wrap (t8 + w51_0 t6 (w71_0 m18_0 m18_1 (fS (t39.getD t41.toNat []) 0) (fI (t39.getD t41.toNat []) 1) (fI (t39.getD t41.toNat []) 2) (fI (t39.getD t41.toNat []) 3) (fI (t39.getD t41.toNat []) 4)) (w71_1 m18_0 m18_1 (fS (t39.getD t41.toNat []) 0) (fI (t39.getD t41.toNat []) 1) (fI (t39.getD t41.toNat []) 2) (fI (t39.getD t41.toNat []) 3) (fI (t39.getD t41.toNat []) 4))), IntKind.i64.wrap (t41 + 1)⟩) (.bad)) (.go ⟨t8, IntKind.i64.wrap (t41 + 1)⟩)) (.bad)) (.bad)) (.out (.x0 t8 t41))
noncomputable def o42aa_0 (ra rb rc : Int) (ps : List (List AV)) (t4 t5 : Int) (t6 : List (List AV)) (t11 : Int) (ws : List (List AV)) (t31 t32 : Int) (t39 : List (List AV)) (t40 m18_0 m18_1 t8 t41 : Int) : St :=
  { t := [(2, .rp [.int .i64, .int .i64, .int .i64, .sl 39] [.i .i64 ra, .i .i64 rb, .i .i64 rc, .rs 39 ps] 0), (4, .i .i64 t4), (5, .i .i64 t5), (6, .rs 94 t6), (8, .i .i64 t8), (9, .p 18 0 0), (11, .i .i64 t11), (30, .rs 3 ws), (31, .i .i64 t31), (32, .i .i64 t32), (39, .rs 39 t39), (40, .i .i64 t40), (41, .i .i64 t41)], m := [(0, .dead), (1, .dead), (2, .dead), (3, .dead), (4, .dead), (5, .dead), (6, .dead), (7, .dead), (8, .dead), (9, .dead), (10, .dead), (11, .dead), (12, .dead), (13, .dead), (14, .dead), (15, .dead), (16, .dead), (17, .dead), (18, .row 74 [[.i .i64 m18_0, .i .i64 m18_1]])], nx := 19, nt := 70 }
noncomputable def ou42aa (ra rb rc : Int) (ps : List (List AV)) (t4 t5 : Int) (t6 : List (List AV)) (t11 : Int) (ws : List (List AV)) (t31 t32 : Int) (t39 : List (List AV)) (t40 m18_0 m18_1 : Int) : T42aa → Ex × St
  | .x0 t8 t41 => (.ext 2, o42aa_0 ra rb rc ps t4 t5 t6 t11 ws t31 t32 t39 t40 m18_0 m18_1 t8 t41)
noncomputable def r42aa (ra rb rc : Int) (ps : List (List AV)) (t4 t5 : Int) (t6 : List (List AV)) (t11 : Int) (ws : List (List AV)) (t31 t32 : Int) (t39 : List (List AV)) (t40 m18_0 m18_1 t8 t41 : Int) : Option T42aa := run (fun x => stp42aa ra rb rc ps t4 t5 t6 t11 ws t31 t32 t39 t40 m18_0 m18_1 x.t8 x.t41) (⟨t8, t41⟩ : S42aa)
noncomputable def i42aa_0 (ra rb rc : Int) (ps : List (List AV)) (t4 t5 : Int) (t6 : List (List AV)) (t11 : Int) (ws : List (List AV)) (t31 t32 : Int) (t39 : List (List AV)) (t40 m18_0 m18_1 t8 t41 : Int) : Bool := match r42aa ra rb rc ps t4 t5 t6 t11 ws t31 t32 t39 t40 m18_0 m18_1 t8 t41 with
  | some (.x0 _ _) => true
  | _ => false
noncomputable def v42aa_0_t8 (ra rb rc : Int) (ps : List (List AV)) (t4 t5 : Int) (t6 : List (List AV)) (t11 : Int) (ws : List (List AV)) (t31 t32 : Int) (t39 : List (List AV)) (t40 m18_0 m18_1 t8 t41 : Int) : Int := match r42aa ra rb rc ps t4 t5 t6 t11 ws t31 t32 t39 t40 m18_0 m18_1 t8 t41 with
  | some (.x0 t8 _) => t8
  | _ => default
noncomputable def v42aa_0_t41 (ra rb rc : Int) (ps : List (List AV)) (t4 t5 : Int) (t6 : List (List AV)) (t11 : Int) (ws : List (List AV)) (t31 t32 : Int) (t39 : List (List AV)) (t40 m18_0 m18_1 t8 t41 : Int) : Int := match r42aa ra rb rc ps t4 t5 t6 t11 ws t31 t32 t39 t40 m18_0 m18_1 t8 t41 with
  | some (.x0 _ t41) => t41
  | _ => default
noncomputable def l42aa (st : St) : Option (List (Bool × Ex × St)) := match normW Try.prog [(2, none), (4, none), (5, none), (6, none), (8, none), (9, none), (11, none), (30, none), (31, none), (32, none), (39, none), (40, none), (41, none)] 19 st with
  | some ([.rp [.int .i64, .int .i64, .int .i64, .sl 39] [.i .i64 ra, .i .i64 rb, .i .i64 rc, .rs 39 ps] 0, .i .i64 t4, .i .i64 t5, .rs 94 t6, .i .i64 t8, .p 18 0 0, .i .i64 t11, .rs 3 ws, .i .i64 t31, .i .i64 t32, .rs 39 t39, .i .i64 t40, .i .i64 t41], [(0, .dead), (1, .dead), (2, .dead), (3, .dead), (4, .dead), (5, .dead), (6, .dead), (7, .dead), (8, .dead), (9, .dead), (10, .dead), (11, .dead), (12, .dead), (13, .dead), (14, .dead), (15, .dead), (16, .dead), (17, .dead), (18, .row 74 [[.i .i64 m18_0, .i .i64 m18_1]])], 19, 70) => some [(i42aa_0 ra rb rc ps t4 t5 t6 t11 ws t31 t32 t39 t40 m18_0 m18_1 t8 t41, .ext 2, o42aa_0 ra rb rc ps t4 t5 t6 t11 ws t31 t32 t39 t40 m18_0 m18_1 (v42aa_0_t8 ra rb rc ps t4 t5 t6 t11 ws t31 t32 t39 t40 m18_0 m18_1 t8 t41) (v42aa_0_t41 ra rb rc ps t4 t5 t6 t11 ws t31 t32 t39 t40 m18_0 m18_1 t8 t41))]
  | _ => none
structure S42a where
  t8 : Int
  t32 : Int
  m18_0 : Int
  m18_1 : Int
inductive T42a where
  | x0 (t8 : Int) (t32 : Int) (m18_0 : Int) (m18_1 : Int)
noncomputable def stp42a (ra rb rc : Int) (ps : List (List AV)) (t4 t5 : Int) (t6 ws : List (List AV)) (t31 t8 t32 m18_0 m18_1 : Int) : Lp S42a T42a :=
  cond (decide (t32 < t31)) (cond (inb t32 ws.length) (cond (decide (0 ≤ fI (ws.getD t32.toNat []) 0) && decide (fI (ws.getD t32.toNat []) 0 ≤ (↑ps.length : Int))) (cond (i42aa_0 ra rb rc ps t4 t5 t6 (fI (ws.getD t32.toNat []) 0) ws t31 t32 (List.drop 0 (List.take (fI (ws.getD t32.toNat []) 0).toNat ps)) (↑(List.drop 0 (List.take (fI (ws.getD t32.toNat []) 0).toNat ps)).length : Int) m18_0 m18_1 t8 0) (cond (inb (fI (ws.getD t32.toNat []) 0) ps.length) (cond (g71 m18_0 m18_1 (fS (ps.getD (fI (ws.getD t32.toNat []) 0).toNat []) 0) (fI (ps.getD (fI (ws.getD t32.toNat []) 0).toNat []) 1) (fI (ps.getD (fI (ws.getD t32.toNat []) 0).toNat []) 2) (fI (ps.getD (fI (ws.getD t32.toNat []) 0).toNat []) 3) (fI (ps.getD (fI (ws.getD t32.toNat []) 0).toNat []) 4)) (.go ⟨v42aa_0_t8 ra rb rc ps t4 t5 t6 (fI (ws.getD t32.toNat []) 0) ws t31 t32 (List.drop 0 (List.take (fI (ws.getD t32.toNat []) 0).toNat ps)) (↑(List.drop 0 (List.take (fI (ws.getD t32.toNat []) 0).toNat ps)).length : Int) m18_0 m18_1 t8 0, IntKind.i64.wrap (t32 + 1), w71_0 m18_0 m18_1 (fS (ps.getD (fI (ws.getD t32.toNat []) 0).toNat []) 0) (fI (ps.getD (fI (ws.getD t32.toNat []) 0).toNat []) 1) (fI (ps.getD (fI (ws.getD t32.toNat []) 0).toNat []) 2) (fI (ps.getD (fI (ws.getD t32.toNat []) 0).toNat []) 3) (fI (ps.getD (fI (ws.getD t32.toNat []) 0).toNat []) 4), w71_1 m18_0 m18_1 (fS (ps.getD (fI (ws.getD t32.toNat []) 0).toNat []) 0) (fI (ps.getD (fI (ws.getD t32.toNat []) 0).toNat []) 1) (fI (ps.getD (fI (ws.getD t32.toNat []) 0).toNat []) 2) (fI (ps.getD (fI (ws.getD t32.toNat []) 0).toNat []) 3) (fI (ps.getD (fI (ws.getD t32.toNat []) 0).toNat []) 4)⟩) (.bad)) (.bad)) (.bad)) (.bad)) (.bad)) (.out (.x0 t8 t32 m18_0 m18_1))
noncomputable def o42a_0 (ra rb rc : Int) (ps : List (List AV)) (t4 t5 : Int) (t6 ws : List (List AV)) (t31 t8 t32 m18_0 m18_1 : Int) : St :=
  { t := [(2, .rp [.int .i64, .int .i64, .int .i64, .sl 39] [.i .i64 ra, .i .i64 rb, .i .i64 rc, .rs 39 ps] 0), (4, .i .i64 t4), (5, .i .i64 t5), (6, .rs 94 t6), (8, .i .i64 t8), (9, .p 18 0 0), (30, .rs 3 ws), (31, .i .i64 t31), (32, .i .i64 t32)], m := [(0, .dead), (1, .dead), (2, .dead), (3, .dead), (4, .dead), (5, .dead), (6, .dead), (7, .dead), (8, .dead), (9, .dead), (10, .dead), (11, .dead), (12, .dead), (13, .dead), (14, .dead), (15, .dead), (16, .dead), (17, .dead), (18, .row 74 [[.i .i64 m18_0, .i .i64 m18_1]])], nx := 19, nt := 70 }
noncomputable def ou42a (ra rb rc : Int) (ps : List (List AV)) (t4 t5 : Int) (t6 ws : List (List AV)) (t31 : Int) : T42a → Ex × St
  | .x0 t8 t32 m18_0 m18_1 => (.ext 0, o42a_0 ra rb rc ps t4 t5 t6 ws t31 t8 t32 m18_0 m18_1)
noncomputable def r42a (ra rb rc : Int) (ps : List (List AV)) (t4 t5 : Int) (t6 ws : List (List AV)) (t31 t8 t32 m18_0 m18_1 : Int) : Option T42a := run (fun x => stp42a ra rb rc ps t4 t5 t6 ws t31 x.t8 x.t32 x.m18_0 x.m18_1) (⟨t8, t32, m18_0, m18_1⟩ : S42a)
noncomputable def i42a_0 (ra rb rc : Int) (ps : List (List AV)) (t4 t5 : Int) (t6 ws : List (List AV)) (t31 t8 t32 m18_0 m18_1 : Int) : Bool := match r42a ra rb rc ps t4 t5 t6 ws t31 t8 t32 m18_0 m18_1 with
  | some (.x0 _ _ _ _) => true
  | _ => false
noncomputable def v42a_0_t8 (ra rb rc : Int) (ps : List (List AV)) (t4 t5 : Int) (t6 ws : List (List AV)) (t31 t8 t32 m18_0 m18_1 : Int) : Int := match r42a ra rb rc ps t4 t5 t6 ws t31 t8 t32 m18_0 m18_1 with
  | some (.x0 t8 _ _ _) => t8
  | _ => default
noncomputable def v42a_0_t32 (ra rb rc : Int) (ps : List (List AV)) (t4 t5 : Int) (t6 ws : List (List AV)) (t31 t8 t32 m18_0 m18_1 : Int) : Int := match r42a ra rb rc ps t4 t5 t6 ws t31 t8 t32 m18_0 m18_1 with
  | some (.x0 _ t32 _ _) => t32
  | _ => default
noncomputable def v42a_0_m18_0 (ra rb rc : Int) (ps : List (List AV)) (t4 t5 : Int) (t6 ws : List (List AV)) (t31 t8 t32 m18_0 m18_1 : Int) : Int := match r42a ra rb rc ps t4 t5 t6 ws t31 t8 t32 m18_0 m18_1 with
  | some (.x0 _ _ m18_0 _) => m18_0
  | _ => default
noncomputable def v42a_0_m18_1 (ra rb rc : Int) (ps : List (List AV)) (t4 t5 : Int) (t6 ws : List (List AV)) (t31 t8 t32 m18_0 m18_1 : Int) : Int := match r42a ra rb rc ps t4 t5 t6 ws t31 t8 t32 m18_0 m18_1 with
  | some (.x0 _ _ _ m18_1) => m18_1
  | _ => default
noncomputable def l42a (st : St) : Option (List (Bool × Ex × St)) := match normW Try.prog [(2, none), (4, none), (5, none), (6, none), (8, none), (9, none), (30, none), (31, none), (32, none)] 19 st with
  | some ([.rp [.int .i64, .int .i64, .int .i64, .sl 39] [.i .i64 ra, .i .i64 rb, .i .i64 rc, .rs 39 ps] 0, .i .i64 t4, .i .i64 t5, .rs 94 t6, .i .i64 t8, .p 18 0 0, .rs 3 ws, .i .i64 t31, .i .i64 t32], [(0, .dead), (1, .dead), (2, .dead), (3, .dead), (4, .dead), (5, .dead), (6, .dead), (7, .dead), (8, .dead), (9, .dead), (10, .dead), (11, .dead), (12, .dead), (13, .dead), (14, .dead), (15, .dead), (16, .dead), (17, .dead), (18, .row 74 [[.i .i64 m18_0, .i .i64 m18_1]])], 19, 70) => some [(i42a_0 ra rb rc ps t4 t5 t6 ws t31 t8 t32 m18_0 m18_1, .ext 0, o42a_0 ra rb rc ps t4 t5 t6 ws t31 (v42a_0_t8 ra rb rc ps t4 t5 t6 ws t31 t8 t32 m18_0 m18_1) (v42a_0_t32 ra rb rc ps t4 t5 t6 ws t31 t8 t32 m18_0 m18_1) (v42a_0_m18_0 ra rb rc ps t4 t5 t6 ws t31 t8 t32 m18_0 m18_1) (v42a_0_m18_1 ra rb rc ps t4 t5 t6 ws t31 t8 t32 m18_0 m18_1))]
  | _ => none
noncomputable def L42 : LSpec := fun p st => match p with
  | [false, true, false, true, false, false, true, true, false, false, true, false, true, true, true, true, true] => l42aa st
  | [false, true, false, true, true, true, true, true] => l42a st
  | _ => none
theorem is42aa_0 (ra rb rc : Int) (ps : List (List AV)) (t4 t5 : Int) (t6 : List (List AV)) (t11 : Int) (ws : List (List AV)) (t31 t32 : Int) (t39 : List (List AV)) (t40 m18_0 m18_1 t8 t41 : Int) (h : i42aa_0 ra rb rc ps t4 t5 t6 t11 ws t31 t32 t39 t40 m18_0 m18_1 t8 t41 = true) : r42aa ra rb rc ps t4 t5 t6 t11 ws t31 t32 t39 t40 m18_0 m18_1 t8 t41 = some (.x0 (v42aa_0_t8 ra rb rc ps t4 t5 t6 t11 ws t31 t32 t39 t40 m18_0 m18_1 t8 t41) (v42aa_0_t41 ra rb rc ps t4 t5 t6 t11 ws t31 t32 t39 t40 m18_0 m18_1 t8 t41)) := by
  unfold i42aa_0 at h
  unfold v42aa_0_t8 v42aa_0_t41
  generalize r42aa ra rb rc ps t4 t5 t6 t11 ws t31 t32 t39 t40 m18_0 m18_1 t8 t41 = r at h ⊢
  rcases r with _ | y
  · cases h
  · cases y <;> first | rfl | cases h
theorem round42aa (ra rb rc : Int) (ps : List (List AV)) (t4 t5 : Int) (t6 : List (List AV)) (t8 t11 : Int) (ws : List (List AV)) (t31 t32 : Int) (t39 : List (List AV)) (t40 t41 m18_0 m18_1 : Int) : round Try.prog Sh (ro 9) L42 lp42aa [false, true, false, true, false, false, true, true, false, false, true, false, true, true, true, true, true] [(2, none), (4, none), (5, none), (6, none), (8, none), (9, none), (11, none), (30, none), (31, none), (32, none), (39, none), (40, none), (41, none)] 19 (s42aa ra rb rc ps t4 t5 t6 t8 t11 ws t31 t32 t39 t40 t41 m18_0 m18_1) =
    cond (decide (t41 < t40)) (cond (inb t41 t39.length) (cond (g71 m18_0 m18_1 (fS (t39.getD t41.toNat []) 0) (fI (t39.getD t41.toNat []) 1) (fI (t39.getD t41.toNat []) 2) (fI (t39.getD t41.toNat []) 3) (fI (t39.getD t41.toNat []) 4)) (cond (w71_2 m18_0 m18_1 (fS (t39.getD t41.toNat []) 0) (fI (t39.getD t41.toNat []) 1) (fI (t39.getD t41.toNat []) 2) (fI (t39.getD t41.toNat []) 3) (fI (t39.getD t41.toNat []) 4)) (cond (g51 t6 (w71_0 m18_0 m18_1 (fS (t39.getD t41.toNat []) 0) (fI (t39.getD t41.toNat []) 1) (fI (t39.getD t41.toNat []) 2) (fI (t39.getD t41.toNat []) 3) (fI (t39.getD t41.toNat []) 4)) (w71_1 m18_0 m18_1 (fS (t39.getD t41.toNat []) 0) (fI (t39.getD t41.toNat []) 1) (fI (t39.getD t41.toNat []) 2) (fI (t39.getD t41.toNat []) 3) (fI (t39.getD t41.toNat []) 4))) (some (.nrm, s42aa ra rb rc ps t4 t5 t6 (IntKind.i64.wrap (t8 + w51_0 t6 (w71_0 m18_0 m18_1 (fS (t39.getD t41.toNat []) 0) (fI (t39.getD t41.toNat []) 1) (fI (t39.getD t41.toNat []) 2) (fI (t39.getD t41.toNat []) 3) (fI (t39.getD t41.toNat []) 4)) (w71_1 m18_0 m18_1 (fS (t39.getD t41.toNat []) 0) (fI (t39.getD t41.toNat []) 1) (fI (t39.getD t41.toNat []) 2) (fI (t39.getD t41.toNat []) 3) (fI (t39.getD t41.toNat []) 4)))) t11 ws t31 t32 t39 t40 (IntKind.i64.wrap (t41 + 1)) m18_0 m18_1)) (none)) (some (.nrm, s42aa ra rb rc ps t4 t5 t6 t8 t11 ws t31 t32 t39 t40 (IntKind.i64.wrap (t41 + 1)) m18_0 m18_1))) (none)) (none)) (some (.ext 2, o42aa_0 ra rb rc ps t4 t5 t6 t11 ws t31 t32 t39 t40 m18_0 m18_1 t8 t41)) := by kernel_rfl
theorem rnd42aa (ra rb rc : Int) (ps : List (List AV)) (t4 t5 : Int) (t6 : List (List AV)) (t11 : Int) (ws : List (List AV)) (t31 t32 : Int) (t39 : List (List AV)) (t40 m18_0 m18_1 : Int) (x : S42aa) : round Try.prog Sh (ro 9) L42 lp42aa [false, true, false, true, false, false, true, true, false, false, true, false, true, true, true, true, true] [(2, none), (4, none), (5, none), (6, none), (8, none), (9, none), (11, none), (30, none), (31, none), (32, none), (39, none), (40, none), (41, none)] 19 ((fun x => s42aa ra rb rc ps t4 t5 t6 x.t8 t11 ws t31 t32 t39 t40 x.t41 m18_0 m18_1) x) = toR (fun x => s42aa ra rb rc ps t4 t5 t6 x.t8 t11 ws t31 t32 t39 t40 x.t41 m18_0 m18_1) (ou42aa ra rb rc ps t4 t5 t6 t11 ws t31 t32 t39 t40 m18_0 m18_1) (stp42aa ra rb rc ps t4 t5 t6 t11 ws t31 t32 t39 t40 m18_0 m18_1 x.t8 x.t41) := by
  refine (round42aa _ _ _ _ _ _ _ _ _ _ _ _ _ _ _ _ _ ).trans ?_
  unfold stp42aa
  simp only [toR_cond]
  rfl
theorem lok42aa {st : St} {outs : List (Bool × Ex × St)} {e : Ex} {s : St} (hl : l42aa st = some outs) (hch : Chosen outs e s) :
    ∃ keep nb, 0 ≤ nb ∧ LB Try.prog Sh (ro 9) L42 lp42aa [false, true, false, true, false, false, true, true, false, false, true, false, true, true, true, true, true] keep nb st e s := by
  unfold l42aa at hl
  split at hl
  · rename_i ra rb rc ps t4 t5 t6 t8 t11 ws t31 t32 t39 t40 t41 m18_0 m18_1 hno
    cases hl
    have hno := normW_norm hno
    refine ⟨_, _, ?_, .enter hno ?_⟩
    · decide
    have main := fun y h => LB_run (x := (⟨t8, t41⟩ : S42aa)) (y := y) (nb := 19) (fun y => by cases y <;> simp [ou42aa]) (rnd42aa ra rb rc ps t4 t5 t6 t11 ws t31 t32 t39 t40 m18_0 m18_1) h
    obtain ⟨x, hx, hg, rfl, rfl⟩ := chosen_any hch
    simp only [List.mem_cons, List.not_mem_nil, or_false] at hx
    subst hx
    exact main _ (is42aa_0 ra rb rc ps t4 t5 t6 t11 ws t31 t32 t39 t40 m18_0 m18_1 t8 t41 hg)
  · cases hl
theorem is42a_0 (ra rb rc : Int) (ps : List (List AV)) (t4 t5 : Int) (t6 ws : List (List AV)) (t31 t8 t32 m18_0 m18_1 : Int) (h : i42a_0 ra rb rc ps t4 t5 t6 ws t31 t8 t32 m18_0 m18_1 = true) : r42a ra rb rc ps t4 t5 t6 ws t31 t8 t32 m18_0 m18_1 = some (.x0 (v42a_0_t8 ra rb rc ps t4 t5 t6 ws t31 t8 t32 m18_0 m18_1) (v42a_0_t32 ra rb rc ps t4 t5 t6 ws t31 t8 t32 m18_0 m18_1) (v42a_0_m18_0 ra rb rc ps t4 t5 t6 ws t31 t8 t32 m18_0 m18_1) (v42a_0_m18_1 ra rb rc ps t4 t5 t6 ws t31 t8 t32 m18_0 m18_1)) := by
  unfold i42a_0 at h
  unfold v42a_0_t8 v42a_0_t32 v42a_0_m18_0 v42a_0_m18_1
  generalize r42a ra rb rc ps t4 t5 t6 ws t31 t8 t32 m18_0 m18_1 = r at h ⊢
  rcases r with _ | y
  · cases h
  · cases y <;> first | rfl | cases h
theorem round42a (ra rb rc : Int) (ps : List (List AV)) (t4 t5 : Int) (t6 : List (List AV)) (t8 : Int) (ws : List (List AV)) (t31 t32 m18_0 m18_1 : Int) : round Try.prog Sh (ro 9) L42 lp42a [false, true, false, true, true, true, true, true] [(2, none), (4, none), (5, none), (6, none), (8, none), (9, none), (30, none), (31, none), (32, none)] 19 (s42a ra rb rc ps t4 t5 t6 t8 ws t31 t32 m18_0 m18_1) =
    cond (decide (t32 < t31)) (cond (inb t32 ws.length) (cond (decide (0 ≤ fI (ws.getD t32.toNat []) 0) && decide (fI (ws.getD t32.toNat []) 0 ≤ (↑ps.length : Int))) (cond (i42aa_0 ra rb rc ps t4 t5 t6 (fI (ws.getD t32.toNat []) 0) ws t31 t32 (List.drop 0 (List.take (fI (ws.getD t32.toNat []) 0).toNat ps)) (↑(List.drop 0 (List.take (fI (ws.getD t32.toNat []) 0).toNat ps)).length : Int) m18_0 m18_1 t8 0) (cond (inb (fI (ws.getD t32.toNat []) 0) ps.length) (cond (g71 m18_0 m18_1 (fS (ps.getD (fI (ws.getD t32.toNat []) 0).toNat []) 0) (fI (ps.getD (fI (ws.getD t32.toNat []) 0).toNat []) 1) (fI (ps.getD (fI (ws.getD t32.toNat []) 0).toNat []) 2) (fI (ps.getD (fI (ws.getD t32.toNat []) 0).toNat []) 3) (fI (ps.getD (fI (ws.getD t32.toNat []) 0).toNat []) 4)) (some (.nrm, s42a ra rb rc ps t4 t5 t6 (v42aa_0_t8 ra rb rc ps t4 t5 t6 (fI (ws.getD t32.toNat []) 0) ws t31 t32 (List.drop 0 (List.take (fI (ws.getD t32.toNat []) 0).toNat ps)) (↑(List.drop 0 (List.take (fI (ws.getD t32.toNat []) 0).toNat ps)).length : Int) m18_0 m18_1 t8 0) ws t31 (IntKind.i64.wrap (t32 + 1)) (w71_0 m18_0 m18_1 (fS (ps.getD (fI (ws.getD t32.toNat []) 0).toNat []) 0) (fI (ps.getD (fI (ws.getD t32.toNat []) 0).toNat []) 1) (fI (ps.getD (fI (ws.getD t32.toNat []) 0).toNat []) 2) (fI (ps.getD (fI (ws.getD t32.toNat []) 0).toNat []) 3) (fI (ps.getD (fI (ws.getD t32.toNat []) 0).toNat []) 4)) (w71_1 m18_0 m18_1 (fS (ps.getD (fI (ws.getD t32.toNat []) 0).toNat []) 0) (fI (ps.getD (fI (ws.getD t32.toNat []) 0).toNat []) 1) (fI (ps.getD (fI (ws.getD t32.toNat []) 0).toNat []) 2) (fI (ps.getD (fI (ws.getD t32.toNat []) 0).toNat []) 3) (fI (ps.getD (fI (ws.getD t32.toNat []) 0).toNat []) 4)))) (none)) (none)) (none)) (none)) (none)) (some (.ext 0, o42a_0 ra rb rc ps t4 t5 t6 ws t31 t8 t32 m18_0 m18_1)) := by kernel_rfl
theorem rnd42a (ra rb rc : Int) (ps : List (List AV)) (t4 t5 : Int) (t6 ws : List (List AV)) (t31 : Int) (x : S42a) : round Try.prog Sh (ro 9) L42 lp42a [false, true, false, true, true, true, true, true] [(2, none), (4, none), (5, none), (6, none), (8, none), (9, none), (30, none), (31, none), (32, none)] 19 ((fun x => s42a ra rb rc ps t4 t5 t6 x.t8 ws t31 x.t32 x.m18_0 x.m18_1) x) = toR (fun x => s42a ra rb rc ps t4 t5 t6 x.t8 ws t31 x.t32 x.m18_0 x.m18_1) (ou42a ra rb rc ps t4 t5 t6 ws t31) (stp42a ra rb rc ps t4 t5 t6 ws t31 x.t8 x.t32 x.m18_0 x.m18_1) := by
  refine (round42a _ _ _ _ _ _ _ _ _ _ _ _ _ ).trans ?_
  unfold stp42a
  simp only [toR_cond]
  rfl
theorem lok42a {st : St} {outs : List (Bool × Ex × St)} {e : Ex} {s : St} (hl : l42a st = some outs) (hch : Chosen outs e s) :
    ∃ keep nb, 0 ≤ nb ∧ LB Try.prog Sh (ro 9) L42 lp42a [false, true, false, true, true, true, true, true] keep nb st e s := by
  unfold l42a at hl
  split at hl
  · rename_i ra rb rc ps t4 t5 t6 t8 ws t31 t32 m18_0 m18_1 hno
    cases hl
    have hno := normW_norm hno
    refine ⟨_, _, ?_, .enter hno ?_⟩
    · decide
    have main := fun y h => LB_run (x := (⟨t8, t32, m18_0, m18_1⟩ : S42a)) (y := y) (nb := 19) (fun y => by cases y <;> simp [ou42a]) (rnd42a ra rb rc ps t4 t5 t6 ws t31) h
    obtain ⟨x, hx, hg, rfl, rfl⟩ := chosen_any hch
    simp only [List.mem_cons, List.not_mem_nil, or_false] at hx
    subst hx
    exact main _ (is42a_0 ra rb rc ps t4 t5 t6 ws t31 t8 t32 m18_0 m18_1 hg)
  · cases hl
theorem L42_ok (q : Pl) (c : Code) (hq : locate c42 q.reverse = some (.loop c)) (st : St) (outs : List (Bool × Ex × St)) (e : Ex) (s : St) (hl : L42 q st = some outs) (hch : Chosen outs e s) :
    ∃ keep nb, 0 ≤ nb ∧ LB Try.prog Sh (ro 9) L42 c q keep nb st e s := by
  unfold L42 at hl
  split at hl
  · have : locate c42 ([false, true, false, true, false, false, true, true, false, false, true, false, true, true, true, true, true] : Pl).reverse = some (.loop lp42aa) := by kernel_rfl
    rw [this] at hq
    cases hq
    exact lok42aa hl hch
  · have : locate c42 ([false, true, false, true, true, true, true, true] : Pl).reverse = some (.loop lp42a) := by kernel_rfl
    rw [this] at hq
    cases hq
    exact lok42a hl hch
  · cases hl
theorem lok42 : LOK Try.prog Sh (ro 9) L42 0 false c42 [] :=
  lok_lo L42_ok c42 [] false (locate_nil _) (by kernel_rfl)
noncomputable def t42 (ra rb rc : Int) (ps ws : List (List AV)) : Tr ((Int) × (Int)) :=
  .cn (g50 ra rb rc ps) (.cn (w50_1 ra rb rc ps != 0) (.lf (0, w50_1 ra rb rc ps)) (.cn (g64 ra rb rc ps ws) (.cn (!w64_0 ra rb rc ps ws) (.lf (0, 8)) (.cn (i42a_0 ra rb rc ps 0 0 (w50_0 ra rb rc ps) ws (↑ws.length : Int) 0 0 (w52_0 ra rb rc ps) (w52_1 ra rb rc ps)) (.lf (v42a_0_t8 ra rb rc ps 0 0 (w50_0 ra rb rc ps) ws (↑ws.length : Int) 0 0 (w52_0 ra rb rc ps) (w52_1 ra rb rc ps), 0)) (.nn))) (.nn))) (.nn)
noncomputable def g42 (ra rb rc : Int) (ps ws : List (List AV)) : Bool := (t42 ra rb rc ps ws).g
noncomputable def w42_0 (ra rb rc : Int) (ps ws : List (List AV)) : Int := (t42 ra rb rc ps ws).val.1
noncomputable def w42_1 (ra rb rc : Int) (ps ws : List (List AV)) : Int := (t42 ra rb rc ps ws).val.2
theorem eq42 (ra rb rc : Int) (ps ws : List (List AV)) : evF Try.prog Sh (ro 9) L42 Try.f9 [.agg [.i .i64 ra, .i .i64 rb, .i .i64 rc, .rs 39 ps], .rs 3 ws] = (t42 ra rb rc ps ws).opt (fun (x : (Int) × (Int)) => (.tup [.i .i64 x.1, .i .i64 x.2] : AV)) := by kernel_rfl
theorem con42 (ra rb rc : Int) (ps ws : List (List AV)) (h : g42 ra rb rc ps ws = true) : Con Try.prog 9 [.agg [.i .i64 ra, .i .i64 rb, .i .i64 rc, .rs 39 ps], .rs 3 ws] [] (.tup [.i .i64 (w42_0 ra rb rc ps ws), .i .i64 (w42_1 ra rb rc ps ws)]) [] :=
  con_of Sh_ok mixed Try.func9 (c := c42) rfl (names 9 _ Try.func9) lok42 ((eq42 ra rb rc ps ws).trans (Tr.sound _ _ h))
noncomputable def e42 (args : List AV) (rows : List Blk) : Option (Bool × AV × List Blk) := match args, rows with
  | [.agg [.i .i64 ra, .i .i64 rb, .i .i64 rc, .rs 39 ps], .rs 3 ws], [] => some (g42 ra rb rc ps ws, .tup [.i .i64 (w42_0 ra rb rc ps ws), .i .i64 (w42_1 ra rb rc ps ws)], [])
  | _, _ => none
theorem e42_ok (args : List AV) (rows : List Blk) (pre : Bool) (v : AV) (rows' : List Blk) (h : e42 args rows = some (pre, v, rows')) (hp : pre = true) : Con Try.prog 9 args rows v rows' := by
  unfold e42 at h
  split at h
  · cases h; exact con42 _ _ _ _ _ hp
  · cases h
-- SPEC 42
end Go.Proofs.Ytfbfohkgajeopac

set_option maxRecDepth 100000
set_option linter.unusedVariables false
namespace Go.Proofs.Ytfbfohkgajeopac
open Go Go.Ev
def cap : Int := 1000000000000001
def okT (T : Nat → Nat → Int) : Prop := ∀ n h, 0 ≤ T n h ∧ T n h ≤ cap
def lvl1 (i L A B : Nat) (T : Nat → Nat → Int) : Nat → Nat → Int := if L ≤ i then upd2 T i A (bmin (T i A + T (i - L) B) cap) else T
theorem lvl1_ok {i L A B : Nat} {T : Nat → Nat → Int} (h : okT T) : okT (lvl1 i L A B T) := by
  intro n k
  unfold lvl1
  split
  · unfold upd2
    split
    · unfold upd
      split
      · have := h i A
        have := h (i - L) B
        rw [bmin_le]
        unfold cap at *
        split <;> omega
      · exact h i k
    · exact h n k
  · exact h n k
theorem g71_true (q0 q1 : Int) (nm : ByteArray) (pa pb pc pd : Int) : g71 q0 q1 nm pa pb pc pd = true := by
  unfold g71 t71
  cases pb == q1 <;> rfl
theorem w71_same (q0 : Int) (nm : ByteArray) (pa pb pc pd : Int) : w71_0 q0 pb nm pa pb pc pd = IntKind.i64.wrap (q0 - pa) ∧ w71_1 q0 pb nm pa pb pc pd = pc ∧ w71_2 q0 pb nm pa pb pc pd = decide (pa ≤ q0) := by
  unfold w71_0 w71_1 w71_2 t71
  simp [Tr.val]
theorem cts91 {A : Nat} (h : A < 10) : ctsAt (cts Try.prog 94) (0 + ((A : Nat) : Int).toNat * 1) (cts Try.prog 3) = true := by
  rcases A with _ | _ | _ | _ | _ | _ | _ | _ | _ | _ | A
  all_goals first | (exfalso; omega) | kernel_rfl
theorem stp_go {ra rb rc : Int} {ps : List (List AV)} {N i k L A B : Nat} {T : Nat → Nat → Int} {p : List AV} (hp : ps.getD k [] = p) (hk : k < ps.length) (hlen : ps.length ≤ 10) (h1 : fI p 1 = (L : Int)) (h2 : fI p 2 = (A : Int)) (h3 : fI p 3 = (B : Int))
    (hA : A < 10) (hB : B < 10) (hL : 1 ≤ L) (hL2 : L ≤ 2000) (hi : i < N) (hN : N ≤ 2001) (hT : okT T) :
    stp81aa ra rb rc ps N (i : Int) ps (ps.length : Int) (k : Int) (tab N T) = .go ⟨((k + 1 : Nat) : Int), tab N (lvl1 i L A B T)⟩ := by
  unfold stp81aa
  have e1 : decide ((k : Int) < (ps.length : Int)) = true := decide_eq_true (by omega)
  have e2 : inb (k : Int) ps.length = true := by simp [inb_nat, hk]
  obtain ⟨w0, w1, w2⟩ := w71_same (i : Int) (fS p 0) (L : Int) (A : Int) (B : Int) (fI p 4)
  have ew : IntKind.i64.wrap ((k : Int) + 1) = ((k + 1 : Nat) : Int) := (wrap64 (by omega) (by omega)).trans (by omega)
  have ei : inb (i : Int) N = true := by simp [inb_nat, hi]
  have eA : inb (A : Int) 10 = true := by simp [inb_nat, hA]
  have eB : inb (B : Int) 10 = true := by simp [inb_nat, hB]
  have cA := cts91 hA
  have cB := cts91 hB
  simp only [e1, e2, cond_true, Int.toNat_natCast, hp, h1, h2, h3, g71_true, w0, w1, w2, ew, ei, eA, eB, tab_len, Nat.zero_add, Nat.mul_one] at cA cB ⊢
  rw [cA, cB]
  have bi : Nat.blt i N = true := by simpa [Nat.blt_eq] using hi
  simp only [bi, Bool.and_true, cond_true]
  by_cases hLi : L ≤ i
  · have d1 : decide ((L : Int) ≤ (i : Int)) = true := decide_eq_true (by omega)
    have ww : IntKind.i64.wrap ((i : Int) - (L : Int)) = ((i - L : Nat) : Int) := (wrap64 (by omega) (by omega)).trans (by omega)
    have hj : i - L < N := by omega
    have ej : inb ((i - L : Nat) : Int) N = true := by simp [inb_nat, hj]
    have bj : Nat.blt (i - L) N = true := by simpa [Nat.blt_eq] using hj
    have q1 := hT i A
    have q2 := hT (i - L) B
    simp only [d1, cond_true, ww, ej, Int.toNat_natCast, bj, Bool.and_true, tab_get hi, tab_get hj, tabR_get hA, tabR_get hB]
    rw [wrap64 (by unfold cap at *; omega) (by unfold cap at *; omega)]
    have := tab_set (N := N) (T := T) (v := bmin (T i A + T (i - L) B) 1000000000000001) hi hA
    rw [tab_get hi] at this
    rw [this]
    unfold lvl1
    rw [if_pos hLi]
    rfl
  · have d1 : decide ((L : Int) ≤ (i : Int)) = false := decide_eq_false (by omega)
    simp only [d1, cond_false]
    unfold lvl1
    rw [if_neg hLi]
def okPc (p : List AV) : Prop := 1 ≤ fI p 1 ∧ fI p 1 ≤ 2000 ∧ 0 ≤ fI p 2 ∧ fI p 2 < 10 ∧ 0 ≤ fI p 3 ∧ fI p 3 < 10
def okPs (ps : List (List AV)) : Prop := ps.length ≤ 10 ∧ ∀ p, p ∈ ps → okPc p
def pL (p : List AV) : Nat := (fI p 1).toNat
def pA (p : List AV) : Nat := (fI p 2).toNat
def pB (p : List AV) : Nat := (fI p 3).toNat
def lvlP (i : Nat) (T : Nat → Nat → Int) (p : List AV) : Nat → Nat → Int := lvl1 i (pL p) (pA p) (pB p) T
def lvl (ps : List (List AV)) (i : Nat) (T : Nat → Nat → Int) : Nat → Nat → Int := ps.foldl (lvlP i) T
theorem lvl_ok (ps : List (List AV)) {i : Nat} : ∀ {T : Nat → Nat → Int}, okT T → okT (lvl ps i T) := by
  induction ps with
  | nil => exact fun h => h
  | cons p ps ih => exact fun h => ih (lvl1_ok h)
theorem take_foldl {ps : List (List AV)} {i k : Nat} {T : Nat → Nat → Int} (hk : k < ps.length) : lvl (ps.take (k + 1)) i T = lvlP i (lvl (ps.take k) i T) (ps.getD k []) := by
  unfold lvl
  have : ps.take (k + 1) = ps.take k ++ [ps.getD k []] := by
    rw [List.take_add_one, List.getElem?_eq_getElem hk]
    simp [List.getD_eq_getElem?_getD, List.getElem?_eq_getElem hk]
  rw [this, List.foldl_append]
  rfl
theorem inner {ra rb rc : Int} {ps : List (List AV)} {N i : Nat} {T : Nat → Nat → Int} (hps : okPs ps) (hi : i < N) (hN : N ≤ 2001) (hT : okT T) :
    r81aa ra rb rc ps N (i : Int) ps (ps.length : Int) 0 (tab N T) = some (.x0 (ps.length : Int) (tab N (lvl ps i T))) := by
  unfold r81aa
  have := run_from0 (step := fun x : S81aa => stp81aa ra rb rc ps N (i : Int) ps (ps.length : Int) x.t27 x.m5) (y := .x0 (ps.length : Int) (tab N (lvl ps i T))) (m := ps.length)
    (fun k => ⟨(k : Int), tab N (lvl (ps.take k) i T)⟩) (fun k hk => ?_) ?_
  · simpa [lvl] using this
  · have hm : ps.getD k [] ∈ ps := by
      simp only [List.getD_eq_getElem?_getD, List.getElem?_eq_getElem hk, Option.getD_some]
      exact List.getElem_mem hk
    obtain ⟨b1, b2, b3, b4, b5, b6⟩ := hps.2 _ hm
    have := stp_go (ra := ra) (rb := rb) (rc := rc) (ps := ps) (N := N) (i := i) (k := k) (L := pL (ps.getD k [])) (A := pA (ps.getD k [])) (B := pB (ps.getD k [])) (T := lvl (ps.take k) i T) rfl hk hps.1
      (by unfold pL; omega) (by unfold pA; omega) (by unfold pB; omega) (by unfold pA; omega) (by unfold pB; omega) (by unfold pL; omega) (by unfold pL; omega) hi hN (lvl_ok _ hT)
    rw [take_foldl hk]
    exact this
  · show stp81aa ra rb rc ps N (i : Int) ps (ps.length : Int) (ps.length : Int) _ = _
    rw [List.take_length]
    unfold stp81aa
    have : decide ((ps.length : Int) < (ps.length : Int)) = false := decide_eq_false (by omega)
    rw [this]
    rfl
def T0 (c : Nat) : Nat → Nat → Int := upd2 (fun _ _ => 0) 0 c 1
def tabs (ps : List (List AV)) (c : Nat) : Nat → Nat → Nat → Int
  | 0 => T0 c
  | i + 1 => lvl ps (i + 1) (tabs ps c i)
theorem T0_ok (c : Nat) : okT (T0 c) := by
  intro n h
  show 0 ≤ (if n = 0 then upd (fun _ => 0) c 1 else fun _ => 0) h ∧ (if n = 0 then upd (fun _ => 0) c 1 else fun _ => 0) h ≤ cap
  unfold cap
  split
  · show 0 ≤ (if h = c then (1 : Int) else 0) ∧ (if h = c then (1 : Int) else 0) ≤ _
    split <;> omega
  · show (0 : Int) ≤ 0 ∧ (0 : Int) ≤ _
    omega
theorem tabs_ok (ps : List (List AV)) (c : Nat) : ∀ i, okT (tabs ps c i)
  | 0 => T0_ok c
  | i + 1 => lvl_ok ps (tabs_ok ps c i)
theorem outer {rb rc : Int} {ps : List (List AV)} {n c : Nat} (hps : okPs ps) (hn : n ≤ 2000) :
    r81a (n : Int) rb rc ps (n + 1) 1 (tab (n + 1) (tabs ps c 0)) = some (.x0 ((n + 1 : Nat) : Int) (tab (n + 1) (tabs ps c n))) := by
  unfold r81a
  have := run_from0 (step := fun x : S81a => stp81a (n : Int) rb rc ps (n + 1) x.t4 x.m5) (y := .x0 ((n + 1 : Nat) : Int) (tab (n + 1) (tabs ps c n))) (m := n)
    (fun k => ⟨((k + 1 : Nat) : Int), tab (n + 1) (tabs ps c k)⟩) (fun k hk => ?_) ?_
  · exact this
  · show stp81a (n : Int) rb rc ps (n + 1) ((k + 1 : Nat) : Int) (tab (n + 1) (tabs ps c k)) = _
    unfold stp81a
    have e1 : decide (((k + 1 : Nat) : Int) ≤ (n : Int)) = true := decide_eq_true (by omega)
    have hin := inner (ra := (n : Int)) (rb := rb) (rc := rc) (ps := ps) (N := n + 1) (i := k + 1) (T := tabs ps c k) hps (by omega) (by omega) (tabs_ok ps c k)
    have ew : IntKind.i64.wrap (((k + 1 : Nat) : Int) + 1) = ((k + 1 + 1 : Nat) : Int) := (wrap64 (by omega) (by omega)).trans (by omega)
    rw [e1, cond_true, ew]
    unfold i81aa_0 v81aa_0_m5
    rw [hin]
    rfl
  · show stp81a (n : Int) rb rc ps (n + 1) ((n + 1 : Nat) : Int) (tab (n + 1) (tabs ps c n)) = _
    unfold stp81a
    have e1 : decide (((n + 1 : Nat) : Int) ≤ (n : Int)) = false := decide_eq_false (by omega)
    rw [e1]
    rfl
theorem count_val {rb : Int} {ps : List (List AV)} {n c : Nat} (hps : okPs ps) (hn : n ≤ 2000) (hc : c < 10) : g81 (n : Int) rb (c : Int) ps = true ∧ w81_0 (n : Int) rb (c : Int) ps = tab (n + 1) (tabs ps c n) := by
  have ew : IntKind.i64.wrap ((n : Int) + 1) = ((n + 1 : Nat) : Int) := (wrap64 (by omega) (by omega)).trans (by omega)
  have ez : (tab (n + 1) (fun _ _ => 0)).set 0 (setCs ((tab (n + 1) (fun _ _ => 0)).getD 0 []) c [.i .i64 1]) = tab (n + 1) (tabs ps c 0) := tab_set (by omega) hc
  have ho := outer (rb := rb) (rc := (c : Int)) (c := c) hps hn
  have cc := cts91 hc
  simp only [Int.toNat_natCast, Nat.zero_add, Nat.mul_one] at cc
  have ic : inb (c : Int) 10 = true := by simp [inb_nat, hc]
  have i0 : inb 0 (n + 1) = true := by simp [inb]
  have d1 : decide ((0 : Int) ≤ ((n + 1 : Nat) : Int)) = true := decide_eq_true (by omega)
  have d2 : decide (((n + 1 : Nat) : Int) * ((80 : Nat) : Int) ≤ 140737488355328) = true := decide_eq_true (by omega)
  have d3 : decide (((n + 1 : Nat) : Int) ≤ 9223372036854775807) = true := decide_eq_true (by omega)
  have iv : i81a_0 (n : Int) rb (c : Int) ps (n + 1) 1 (tab (n + 1) (tabs ps c 0)) = true := by
    unfold i81a_0
    rw [ho]
  have vv : v81a_0_m5 (n : Int) rb (c : Int) ps (n + 1) 1 (tab (n + 1) (tabs ps c 0)) = tab (n + 1) (tabs ps c n) := by
    unfold v81a_0_m5
    rw [ho]
  have b1 : Nat.ble (n + 1) (n + 1) = true := by simp
  have b2 : Nat.beq (n + 1) (n + 1) = true := by simp
  have b3 : Nat.blt 0 (n + 1) = true := by simp [Nat.blt_eq]
  have d2' : decide (((n + 1 : Nat) : Int) * 80 ≤ 140737488355328) = true := decide_eq_true (by omega)
  unfold g81 w81_0 t81
  simp only [ew, Int.toNat_natCast, tab_zero, Nat.zero_add, Nat.mul_one, ez, tab_len, cc, ic, i0, d1, d2', d3, iv, vv, b1, b2, b3, Bool.and_true, Tr.g, Tr.val, cond_true, decide_true, and_self]
theorem run_total {σ τ : Type} {step : σ → Lp σ τ} (μ : σ → Nat) (Inv : σ → Prop) (h : ∀ x, Inv x → (∃ y, step x = .go y ∧ Inv y ∧ μ y < μ x) ∨ ∃ y, step x = .out y) : ∀ x, Inv x → ∃ y, run step x = some y := by
  have key : ∀ (n : Nat) x, μ x < n → Inv x → ∃ y, run step x = some y := by
    intro n
    induction n with
    | zero => intro x hx; omega
    | succ n ih =>
      intro x hx hi
      rcases h x hi with ⟨y, h1, h2, h3⟩ | ⟨y, h1⟩
      · rw [run_go h1]
        exact ih y (by omega) h2
      · exact ⟨y, run_out h1⟩
  exact fun x hi => key (μ x + 1) x (by omega) hi
theorem g85_true (c : Int) : g85 c = true := by
  unfold g85 t85
  cases decide (c ≥ 97) <;> cases decide (c ≤ 122) <;> cases decide (c ≥ 48) <;> cases decide (c ≤ 57) <;> rfl
theorem run94 (nm : ByteArray) (tr : Bool) : ∃ y, r94a tr 0 nm 0 = some y := by
  unfold r94a
  refine run_total (fun x => nm.size - x.m2_1) (fun _ => True) (fun x _ => ?_) _ trivial
  unfold stp94a
  simp only [g85_true, cond_true]
  cases hb : x.m2_1.blt nm.size with
  | false => exact .inr ⟨_, rfl⟩
  | true =>
    have hb : x.m2_1 < nm.size := by simpa [Nat.blt_eq] using hb
    simp only [cond_true]
    cases w85_0 ↑(Utf8.decode nm x.m2_1).fst == tr with
    | true => exact .inr ⟨_, rfl⟩
    | false =>
      have := (decode_bounds nm x.m2_1).2
      exact .inl ⟨_, rfl, trivial, by show nm.size - (x.m2_1 + _) < nm.size - x.m2_1; omega⟩
theorem g94_true (nm : ByteArray) (tr : Bool) : g94 nm tr = true := by
  obtain ⟨y, hy⟩ := run94 nm tr
  unfold g94 t94 i94a_0 i94a_1
  rw [hy]
  cases y <;> rfl
theorem g84_true (nm : ByteArray) : g84 nm = true := by
  have : g91 nm = true := by
    unfold g91 t91
    rw [g94_true]; rfl
  unfold g84 t84
  rw [this]; rfl
theorem g61_true (nm : ByteArray) : g61 nm = true := by
  unfold g61 t61
  rw [g84_true]
  cases h1 : (nm.toList == (⟨#[]⟩ : ByteArray).toList) with
  | true => rfl
  | false =>
    have hs : 0 < nm.size := by
      rcases Nat.eq_zero_or_pos nm.size with e | e
      · exfalso
        have hnil : nm.toList = (⟨#[]⟩ : ByteArray).toList := by
          have : nm.data = #[] := Array.eq_empty_of_size_eq_zero e
          cases nm
          simp at this
          subst this
          rfl
        rw [hnil] at h1
        simp at h1
      · exact e
    have hi : inb 0 nm.size = true := by simp [inb, hs]
    rw [hi]
    cases decide ((nm.size : Int) > 16) <;> cases decide (((nm.data.toList.getD 0 0).toNat : Int) < 97) <;> cases decide (((nm.data.toList.getD 0 0).toNat : Int) > 122) <;> rfl
theorem stepA {ra rb rc : Int} {ps : List (List AV)} {k : Nat} {m : List (AV × AV)} (hk : k < ps.length) (hl : ps.length ≤ 10) :
    (∃ a b c, a ≠ 0 ∧ stp29a ra rb rc ps 0 ps (ps.length : Int) (k : Int) m = .out (.x0 a b c)) ∨ (okPc (ps.getD k []) ∧ ∃ m', stp29a ra rb rc ps 0 ps (ps.length : Int) (k : Int) m = .go ⟨((k + 1 : Nat) : Int), m'⟩) := by
  unfold stp29a
  have e1 : decide ((k : Int) < (ps.length : Int)) = true := decide_eq_true (by omega)
  have e2 : inb (k : Int) ps.length = true := by simp [inb_nat, hk]
  have ew : IntKind.i64.wrap ((k : Int) + 1) = ((k + 1 : Nat) : Int) := (wrap64 (by omega) (by omega)).trans (by omega)
  simp only [e1, e2, cond_true, g61_true, g55_true, Int.toNat_natCast, ew, w55_eq]
  generalize ps.getD k [] = p
  cases w61_0 (fS p 0) with
  | false => exact .inl ⟨_, _, _, by decide, rfl⟩
  | true =>
    simp only [Bool.not_true, cond_false]
    cases toB ((mget (AV.s (fS p 0)) m).getD (AV.b false)) with
    | true => exact .inl ⟨_, _, _, by decide, rfl⟩
    | false =>
      simp only [cond_false]
      cases h1 : (decide (1 ≤ fI p 1) && decide (fI p 1 ≤ 2000)) with
      | false => exact .inl ⟨_, _, _, by decide, rfl⟩
      | true =>
        simp only [Bool.not_true, cond_false]
        cases h2 : (decide (0 ≤ fI p 2) && decide (fI p 2 ≤ 9)) with
        | false => exact .inl ⟨_, _, _, by decide, rfl⟩
        | true =>
          simp only [Bool.not_true, cond_false]
          cases h3 : (decide (0 ≤ fI p 3) && decide (fI p 3 ≤ 9)) with
          | false => exact .inl ⟨_, _, _, by decide, rfl⟩
          | true =>
            simp only [Bool.and_eq_true, decide_eq_true_eq] at h1 h2 h3
            exact .inr ⟨⟨h1.1, h1.2, h2.1, by omega, h3.1, by omega⟩, _, rfl⟩
theorem stepA_end {ra rb rc : Int} {ps : List (List AV)} {m : List (AV × AV)} : stp29a ra rb rc ps 0 ps (ps.length : Int) (ps.length : Int) m = .out (.x1 (ps.length : Int) m) := by
  unfold stp29a
  have e1 : decide ((ps.length : Int) < (ps.length : Int)) = false := decide_eq_false (by omega)
  rw [e1]; rfl
theorem loopA (ra rb rc : Int) {ps : List (List AV)} (hl : ps.length ≤ 10) : ∃ y, r29a ra rb rc ps 0 ps (ps.length : Int) 0 [] = some y ∧ (∀ t m, y = .x1 t m → okPs ps) ∧ (∀ a t m, y = .x0 a t m → a ≠ 0) := by
  have key : ∀ (n k : Nat) (m : List (AV × AV)), ps.length - k = n → k ≤ ps.length → ∃ y, run (fun x : S29a => stp29a ra rb rc ps 0 ps (ps.length : Int) x.t35 x.m24) ⟨(k : Int), m⟩ = some y ∧ (∀ t m', y = .x1 t m' → ∀ j, k ≤ j → j < ps.length → okPc (ps.getD j [])) ∧ (∀ a t m, y = .x0 a t m → a ≠ 0) := by
    intro n
    induction n with
    | zero =>
      intro k m hn hk
      have : k = ps.length := by omega
      subst this
      exact ⟨_, run_out stepA_end, fun t m' _ j h1 h2 => (by omega), fun a t m e => by cases e⟩
    | succ n ih =>
      intro k m hn hk
      rcases stepA (ra := ra) (rb := rb) (rc := rc) (m := m) (show k < ps.length by omega) hl with ⟨a, b, c, ha, h⟩ | ⟨hp, m', h⟩
      · exact ⟨_, run_out h, fun t m' e => (by cases e), fun a t m e => by cases e; exact ha⟩
      · obtain ⟨y, h1, h2, h3⟩ := ih (k + 1) m' (by omega) (by omega)
        refine ⟨y, (run_go (step := fun x : S29a => stp29a ra rb rc ps 0 ps (ps.length : Int) x.t35 x.m24) h).trans h1, fun t m' e j hj hj' => ?_, h3⟩
        rcases Nat.eq_or_lt_of_le hj with e' | e'
        · rw [← e']; exact hp
        · exact h2 t m' e j e' hj'
  obtain ⟨y, h1, h2, h3⟩ := key ps.length 0 [] rfl (Nat.zero_le _)
  refine ⟨y, h1, fun t m e => ⟨hl, fun p hp => ?_⟩, h3⟩
  obtain ⟨j, hj, rfl⟩ := List.getElem_of_mem hp
  have := h2 t m e j (Nat.zero_le _) hj
  simpa [List.getD_eq_getElem?_getD, List.getElem?_eq_getElem hj] using this
theorem stepB {ra rb rc : Int} {ps : List (List AV)} {k : Nat} (hk : k < ps.length) (hl : ps.length ≤ 10) :
    (∃ a b, a ≠ 0 ∧ stp29b ra rb rc ps 0 ps (ps.length : Int) (k : Int) = .out (.x0 a b)) ∨ stp29b ra rb rc ps 0 ps (ps.length : Int) (k : Int) = .go ⟨((k + 1 : Nat) : Int)⟩ := by
  unfold stp29b
  have e1 : decide ((k : Int) < (ps.length : Int)) = true := decide_eq_true (by omega)
  have e2 : inb (k : Int) ps.length = true := by simp [inb_nat, hk]
  have ew : IntKind.i64.wrap ((k : Int) + 1) = ((k + 1 : Nat) : Int) := (wrap64 (by omega) (by omega)).trans (by omega)
  have ew2 : IntKind.i64.wrap ((ps.length : Int) - 1) = (ps.length : Int) - 1 := wrap64 (by omega) (by omega)
  simp only [e1, e2, cond_true, g55_true, Int.toNat_natCast, ew, ew2, w55_eq]
  cases h1 : (decide (0 ≤ fI (ps.getD k []) 4) && decide (fI (ps.getD k []) 4 ≤ (ps.length : Int) - 1)) with
  | false => exact .inl ⟨_, _, by decide, rfl⟩
  | true =>
    simp only [Bool.and_eq_true, decide_eq_true_eq] at h1
    have hi : inb (fI (ps.getD k []) 4) ps.length = true := by
      obtain ⟨q, hq⟩ : ∃ q : Nat, fI (ps.getD k []) 4 = (q : Int) := ⟨(fI (ps.getD k []) 4).toNat, by omega⟩
      rw [hq, inb_nat]
      exact decide_eq_true (by omega)
    simp only [Bool.not_true, cond_false, hi, cond_true]
    have key : ∀ (c d : Bool), (∃ a b, a ≠ 0 ∧ (cond c (Lp.out (T29b.x0 10 (k : Int))) (cond d (Lp.out (T29b.x0 10 (k : Int))) (Lp.go (⟨((k + 1 : Nat) : Int)⟩ : S29b))) : Lp S29b T29b) = .out (.x0 a b)) ∨ (cond c (Lp.out (T29b.x0 10 (k : Int))) (cond d (Lp.out (T29b.x0 10 (k : Int))) (Lp.go (⟨((k + 1 : Nat) : Int)⟩ : S29b))) : Lp S29b T29b) = .go ⟨((k + 1 : Nat) : Int)⟩ := by
      intro c d
      cases c <;> cases d <;> first | exact .inl ⟨_, _, by decide, rfl⟩ | exact .inr rfl
    exact key _ _
theorem stepB_end {ra rb rc : Int} {ps : List (List AV)} : stp29b ra rb rc ps 0 ps (ps.length : Int) (ps.length : Int) = .out (.x1 (ps.length : Int)) := by
  unfold stp29b
  have e1 : decide ((ps.length : Int) < (ps.length : Int)) = false := decide_eq_false (by omega)
  rw [e1]; rfl
theorem loopB (ra rb rc : Int) {ps : List (List AV)} (hl : ps.length ≤ 10) : ∃ y, r29b ra rb rc ps 0 ps (ps.length : Int) 0 = some y ∧ (∀ a t, y = .x0 a t → a ≠ 0) := by
  have key : ∀ (n k : Nat), ps.length - k = n → k ≤ ps.length → ∃ y, run (fun x : S29b => stp29b ra rb rc ps 0 ps (ps.length : Int) x.t73) ⟨(k : Int)⟩ = some y ∧ (∀ a t, y = .x0 a t → a ≠ 0) := by
    intro n
    induction n with
    | zero =>
      intro k hn hk
      have : k = ps.length := by omega
      subst this
      exact ⟨_, run_out stepB_end, fun a t e => by cases e⟩
    | succ n ih =>
      intro k hn hk
      rcases stepB (ra := ra) (rb := rb) (rc := rc) (show k < ps.length by omega) hl with ⟨a, b, ha, h⟩ | h
      · exact ⟨_, run_out h, fun a t e => by cases e; exact ha⟩
      · obtain ⟨y, h1, h2⟩ := ih (k + 1) (by omega) (by omega)
        exact ⟨y, (run_go (step := fun x : S29b => stp29b ra rb rc ps 0 ps (ps.length : Int) x.t73) h).trans h1, h2⟩
  exact key ps.length 0 rfl (Nat.zero_le _)
theorem g29_true (ra rb rc : Int) (ps : List (List AV)) : g29 ra rb rc ps = true := by
  unfold g29 t29
  simp only [g55_true, w55_eq]
  cases decide (0 ≤ ra) && decide (ra ≤ 2000) with
  | false => rfl
  | true =>
  cases decide (0 ≤ rb) && decide (rb ≤ 9) with
  | false => rfl
  | true =>
  cases decide (0 ≤ rc) && decide (rc ≤ 9) with
  | false => rfl
  | true =>
  cases h : decide ((ps.length : Int) > 10) with
  | true => rfl
  | false =>
  have hl : ps.length ≤ 10 := by have := of_decide_eq_false h; omega
  obtain ⟨y, hy, _⟩ := loopA ra rb rc hl
  obtain ⟨z, hz, _⟩ := loopB ra rb rc hl
  unfold i29a_0 i29a_1 i29b_0 i29b_1
  rw [hy, hz]
  cases y <;> cases z <;> rfl
structure Fine (ra rb rc : Int) (ps : List (List AV)) : Prop where
  a : 0 ≤ ra ∧ ra ≤ 2000
  b : 0 ≤ rb ∧ rb ≤ 9
  c : 0 ≤ rc ∧ rc ≤ 9
  ps : okPs ps
theorem check_err (ra rb rc : Int) (ps : List (List AV)) : w29_0 ra rb rc ps ≠ 0 ∨ (Fine ra rb rc ps ∧ ∀ ra' rb', 0 ≤ ra' → ra' ≤ 2000 → 0 ≤ rb' → rb' ≤ 9 → w29_0 ra' rb' rc ps = 0) := by
  cases ha : (decide (0 ≤ ra) && decide (ra ≤ 2000)) with
  | false =>
    left
    unfold w29_0 t29
    simp only [g55_true, w55_eq, ha, Tr.val, cond_true, Bool.not_false]
    decide
  | true =>
  cases hb : (decide (0 ≤ rb) && decide (rb ≤ 9)) with
  | false =>
    left
    unfold w29_0 t29
    simp only [g55_true, w55_eq, ha, hb, Tr.val, cond_true, cond_false, Bool.not_false, Bool.not_true]
    decide
  | true =>
  cases hc : (decide (0 ≤ rc) && decide (rc ≤ 9)) with
  | false =>
    left
    unfold w29_0 t29
    simp only [g55_true, w55_eq, ha, hb, hc, Tr.val, cond_true, cond_false, Bool.not_false, Bool.not_true]
    decide
  | true =>
  cases h : decide ((ps.length : Int) > 10) with
  | true =>
    left
    unfold w29_0 t29
    simp only [g55_true, w55_eq, ha, hb, hc, h, Tr.val, cond_true, cond_false, Bool.not_true]
    decide
  | false =>
  have hl : ps.length ≤ 10 := by have := of_decide_eq_false h; omega
  obtain ⟨y, hy, hy1, hy0⟩ := loopA ra rb rc hl
  obtain ⟨z, hz, hz0⟩ := loopB ra rb rc hl
  have val : ∀ ra' rb', (decide (0 ≤ ra') && decide (ra' ≤ 2000)) = true → (decide (0 ≤ rb') && decide (rb' ≤ 9)) = true → w29_0 ra' rb' rc ps = (match y with
      | .x0 a _ _ => a
      | .x1 _ _ => match z with
        | .x0 a _ => a
        | .x1 _ => 0) := by
    intro ra' rb' ha' hb'
    have hy' : r29a ra' rb' rc ps 0 ps (ps.length : Int) 0 [] = some y := hy
    have hz' : r29b ra' rb' rc ps 0 ps (ps.length : Int) 0 = some z := hz
    unfold w29_0 t29
    simp only [g55_true, w55_eq, ha', hb', hc, h, Tr.val, cond_true, cond_false, Bool.not_true]
    unfold i29a_0 i29a_1 i29b_0 i29b_1 v29a_0_t2' v29b_0_t2'
    rw [hy', hz']
    cases y <;> cases z <;> rfl
  have v0 := val ra rb ha hb
  simp only [Bool.and_eq_true, decide_eq_true_eq] at ha hb hc
  cases y with
  | x0 a t m => left; rw [v0]; exact hy0 a t m rfl
  | x1 t m =>
    cases z with
    | x0 a t' => left; rw [v0]; exact hz0 a t' rfl
    | x1 t' =>
      right
      exact ⟨⟨ha, hb, hc, hy1 t m rfl⟩, fun ra' rb' h1 h2 h3 h4 => val ra' rb' (by simp [h1, h2]) (by simp [h3, h4])⟩
theorem of_tab {N n b : Nat} {T : Nat → Nat → Int} (hn : n < N) (hb : b < 10) : g51 (tab N T) (n : Int) (b : Int) = true ∧ w51_0 (tab N T) (n : Int) (b : Int) = T n b := by
  have c := cts91 hb
  have i1 : inb (n : Int) N = true := by simp [inb_nat, hn]
  have i2 : inb (b : Int) 10 = true := by simp [inb_nat, hb]
  simp only [Int.toNat_natCast, Nat.zero_add, Nat.mul_one] at c
  unfold g51 w51_0 t51
  simp only [tab_len, i1, i2, Int.toNat_natCast, Nat.zero_add, Nat.mul_one, c, Tr.g, Tr.val, cond_true, tab_get hn, tabR_get hb, and_self]
def acc (T : Nat → Nat → Int) (i h : Nat) (a : Int) (p : List AV) : Int := if pA p = h ∧ pL p ≤ i then bmin (a + T (i - pL p) (pB p)) cap else a
theorem lvlP_other {i n : Nat} {T : Nat → Nat → Int} {p : List AV} (h : n ≠ i) : lvlP i T p n = T n := by
  unfold lvlP lvl1
  split
  · unfold upd2
    rw [if_neg h]
  · rfl
theorem lvl_other (ps : List (List AV)) {i n : Nat} (h : n ≠ i) : ∀ {T : Nat → Nat → Int}, lvl ps i T n = T n := by
  induction ps with
  | nil => intro T; rfl
  | cons p ps ih =>
    intro T
    show lvl ps i (lvlP i T p) n = T n
    rw [ih, lvlP_other h]
theorem acc_congr {T T' : Nat → Nat → Int} {i h : Nat} {ps : List (List AV)} (hps : ∀ p, p ∈ ps → 1 ≤ pL p) (hT : ∀ n, n < i → T n = T' n) : ∀ a, ps.foldl (acc T i h) a = ps.foldl (acc T' i h) a := by
  induction ps with
  | nil => intro a; rfl
  | cons p ps ih =>
    intro a
    have hp := hps p (by simp)
    have e : acc T i h a p = acc T' i h a p := by
      unfold acc
      split
      · rename_i hc
        rw [hT (i - pL p) (by omega)]
      · rfl
    simp only [List.foldl_cons, e]
    exact ih (fun q hq => hps q (by simp [hq])) _
theorem lvl_row {i h : Nat} {ps : List (List AV)} (hps : ∀ p, p ∈ ps → 1 ≤ pL p) : ∀ {T : Nat → Nat → Int}, lvl ps i T i h = ps.foldl (acc T i h) (T i h) := by
  induction ps with
  | nil => intro T; rfl
  | cons p ps ih =>
    intro T
    have hp := hps p (by simp)
    have hps' : ∀ q, q ∈ ps → 1 ≤ pL q := fun q hq => hps q (by simp [hq])
    show lvl ps i (lvlP i T p) i h = ps.foldl (acc T i h) (acc T i h (T i h) p)
    rw [ih hps', acc_congr hps' (T' := T) (fun n hn => lvlP_other (by omega))]
    congr 1
    unfold lvlP lvl1 acc
    by_cases h1 : pL p ≤ i
    · rw [if_pos h1]
      unfold upd2
      rw [if_pos rfl]
      unfold upd
      by_cases h2 : pA p = h
      · rw [if_pos h2.symm, if_pos ⟨h2, h1⟩, h2]
      · rw [if_neg (fun e => h2 e.symm), if_neg (fun e => h2 e.1)]
    · rw [if_neg h1, if_neg (fun e => h1 e.2)]
theorem tabs_zero (ps : List (List AV)) (c : Nat) : ∀ (i n h : Nat), i < n → tabs ps c i n h = 0
  | 0, n, h, hn => by
    show T0 c n h = 0
    unfold T0 upd2
    rw [if_neg (by omega)]
  | i + 1, n, h, hn => by
    show lvl ps (i + 1) (tabs ps c i) n h = 0
    rw [lvl_other ps (by omega)]
    exact tabs_zero ps c i n h (by omega)
theorem tabs_stable (ps : List (List AV)) (c : Nat) {n : Nat} : ∀ {m : Nat}, n ≤ m → tabs ps c m n = tabs ps c n n
  | 0, h => by
    have : n = 0 := by omega
    subst this; rfl
  | m + 1, h => by
    rcases Nat.eq_or_lt_of_le h with e | e
    · rw [e]
    · show lvl ps (m + 1) (tabs ps c m) n = _
      rw [lvl_other ps (by omega)]
      exact tabs_stable ps c (by omega)
def cnt (ps : List (List AV)) (c n h : Nat) : Int := tabs ps c n n h
theorem cnt_rec {ps : List (List AV)} {c n h : Nat} (hps : okPs ps) : cnt ps c (n + 1) h = ps.foldl (acc (fun k => cnt ps c k) (n + 1) h) 0 := by
  have hp : ∀ p, p ∈ ps → 1 ≤ pL p := fun p hm => by
    obtain ⟨h1, _⟩ := hps.2 p hm
    unfold pL; omega
  show lvl ps (n + 1) (tabs ps c n) (n + 1) h = _
  rw [lvl_row hp, tabs_zero ps c n (n + 1) h (by omega)]
  refine acc_congr hp (fun k hk => ?_) 0
  funext h'
  show tabs ps c n k h' = tabs ps c k k h'
  rw [tabs_stable ps c (by omega)]
theorem cnt_ok (ps : List (List AV)) (c n h : Nat) : 0 ≤ cnt ps c n h ∧ cnt ps c n h ≤ cap := tabs_ok ps c n n h
theorem acc_mono {T : Nat → Nat → Int} {i h : Nat} (hT : okT T) {a : Int} (ha : a ≤ cap) (p : List AV) : a ≤ acc T i h a p ∧ acc T i h a p ≤ cap := by
  unfold acc
  split
  · have := hT (i - pL p) (pB p)
    rw [bmin_le]
    split <;> omega
  · exact ⟨Int.le_refl _, ha⟩
theorem acc_fold {T : Nat → Nat → Int} {i h : Nat} (hT : okT T) : ∀ (ps : List (List AV)) {a : Int}, a ≤ cap → a ≤ ps.foldl (acc T i h) a ∧ ps.foldl (acc T i h) a ≤ cap
  | [], a, ha => ⟨Int.le_refl _, ha⟩
  | p :: ps, a, ha => by
    obtain ⟨h1, h2⟩ := acc_mono (i := i) (h := h) hT ha p
    obtain ⟨h3, h4⟩ := acc_fold (i := i) (h := h) hT ps h2
    exact ⟨Int.le_trans h1 h3, h4⟩
theorem take_acc {ps : List (List AV)} {T : Nat → Nat → Int} {i h k : Nat} (hk : k < ps.length) : (ps.take (k + 1)).foldl (acc T i h) 0 = acc T i h ((ps.take k).foldl (acc T i h) 0) (ps.getD k []) := by
  have : ps.take (k + 1) = ps.take k ++ [ps.getD k []] := by
    rw [List.take_add_one, List.getElem?_eq_getElem hk]
    simp [List.getD_eq_getElem?_getD, List.getElem?_eq_getElem hk]
  rw [this, List.foldl_append]
  rfl
theorem take_le {ps : List (List AV)} {T : Nat → Nat → Int} {i h : Nat} (hT : okT T) (k : Nat) : (ps.take k).foldl (acc T i h) 0 ≤ ps.foldl (acc T i h) 0 ∧ 0 ≤ (ps.take k).foldl (acc T i h) 0 := by
  have h0 : (0 : Int) ≤ cap := by unfold cap; omega
  obtain ⟨h1, h2⟩ := acc_fold (i := i) (h := h) hT (ps.take k) h0
  have := (acc_fold (i := i) (h := h) hT (ps.drop k) h2).1
  rw [← List.foldl_append, List.take_append_drop] at this
  exact ⟨this, h1⟩
def isK (ps : List (List AV)) (k : Int) : Bool := decide (0 ≤ k) && decide (k ≤ (ps.length : Int) - 1)
def pk (ps : List (List AV)) (k : Int) : List AV := ps.getD k.toNat []
def fitsL (ps : List (List AV)) (c : Int) : Int → Int → List Int → Bool
  | n, b, [] => n == 0 && b == c
  | n, b, k :: ks => isK ps k && (fI (pk ps k) 2 == b && decide (fI (pk ps k) 1 ≤ n) && fitsL ps c (n - fI (pk ps k) 1) (fI (pk ps k) 3) ks)
def nums (ws : List (List AV)) : List Int := ws.map fun w => fI w 0
theorem nums_len (ws : List (List AV)) : (nums ws).length = ws.length := by simp [nums]
theorem nums_drop {ws : List (List AV)} {k : Nat} (h : k < ws.length) : (nums ws).drop k = fI (ws.getD k []) 0 :: (nums ws).drop (k + 1) := by
  unfold nums
  rw [← List.map_drop, ← List.map_drop, drop_cons [] h]
  rfl
theorem pk_mem {ps : List (List AV)} {k : Int} (h : isK ps k = true) : pk ps k ∈ ps := by
  simp only [isK, Bool.and_eq_true, decide_eq_true_eq] at h
  have hk : k.toNat < ps.length := by omega
  unfold pk
  simp only [List.getD_eq_getElem?_getD, List.getElem?_eq_getElem hk, Option.getD_some]
  exact List.getElem_mem hk
theorem pk_ok {ps : List (List AV)} (hps : okPs ps) {k : Int} (h : isK ps k = true) : okPc (pk ps k) := hps.2 _ (pk_mem h)
theorem isK_inb {ps : List (List AV)} {k : Int} (h : isK ps k = true) : inb k ps.length = true := by
  simp only [isK, Bool.and_eq_true, decide_eq_true_eq] at h
  obtain ⟨q, rfl⟩ : ∃ q : Nat, k = (q : Int) := ⟨k.toNat, by omega⟩
  rw [inb_nat]
  exact decide_eq_true (by omega)
theorem w71_all (q0 q1 : Int) (nm : ByteArray) (pa pb pc pd : Int) : w71_0 q0 q1 nm pa pb pc pd = IntKind.i64.wrap (q0 - pa) ∧ w71_1 q0 q1 nm pa pb pc pd = pc ∧ w71_2 q0 q1 nm pa pb pc pd = (pb == q1 && decide (pa ≤ q0)) := by
  unfold w71_0 w71_1 w71_2 t71
  cases pb == q1 <;> simp [Tr.val]
theorem len_pred {ps : List (List AV)} (h : ps.length ≤ 10) : IntKind.i64.wrap ((ps.length : Int) - 1) = (ps.length : Int) - 1 := wrap64 (by omega) (by omega)
theorem w55_isK (ps : List (List AV)) (k : Int) : w55_0 k 0 ((ps.length : Int) - 1) = isK ps k := by rw [w55_eq]; rfl
theorem fits_val {ra rb rc : Int} {ps ws : List (List AV)} (hF : Fine ra rb rc ps) (hw : ws.length < 9223372036854775807) : g64 ra rb rc ps ws = true ∧ w64_0 ra rb rc ps ws = fitsL ps rc ra rb (nums ws) := by
  have hl := hF.ps.1
  have run : ∃ y, r64a ra rb rc ps false ws (ws.length : Int) true 0 ra rb = some y ∧ (match y with
      | .x0 t _ _ _ _ => t = false ∧ fitsL ps rc ra rb ((nums ws).drop 0) = false
      | .x1 _ _ m0 m1 => (m0 == 0 && m1 == rc) = fitsL ps rc ra rb ((nums ws).drop 0)) := by
    unfold r64a
    refine run_for (S := Bool × Int × Int) ws.length (fun k s => (⟨s.1, (k : Int), s.2.1, s.2.2⟩ : S64a)) (fun _ s => 0 ≤ s.2.1 ∧ s.2.1 ≤ 2000) (fun k s (y : T64a) => match y with
      | .x0 t _ _ _ _ => t = false ∧ fitsL ps rc s.2.1 s.2.2 ((nums ws).drop k) = false
      | .x1 _ _ m0 m1 => (m0 == 0 && m1 == rc) = fitsL ps rc s.2.1 s.2.2 ((nums ws).drop k)) (fun k s hk hi => ?_) (fun s hi => ?_) 0 (true, ra, rb) (Nat.zero_le _) hF.a
    · obtain ⟨b, n, h⟩ := s
      simp only at hi
      show (∃ s', stp64a ra rb rc ps false ws (ws.length : Int) b (k : Int) n h = _ ∧ _) ∨ ∃ y, stp64a ra rb rc ps false ws (ws.length : Int) b (k : Int) n h = _ ∧ _
      unfold stp64a
      rw [Int.toNat_natCast]
      simp only [lt_true hk, inb_true hk, cond_true, wrap_succ (show k < 9223372036854775807 by omega), g55_true, len_pred hl, w55_isK, g71_true, w71_all]
      rw [nums_drop hk]
      generalize fI (ws.getD k []) 0 = v
      cases hv : isK ps v with
      | false =>
        refine .inr ⟨_, rfl, rfl, ?_⟩
        show (isK ps v && _) = false
        rw [hv]; rfl
      | true =>
        obtain ⟨b1, b2, b3, b4, b5, b6⟩ := pk_ok hF.ps hv
        simp only [Bool.not_true, cond_false, isK_inb hv, cond_true]
        have hp : ps.getD v.toNat [] = pk ps v := rfl
        rw [hp]
        cases hc : (fI (pk ps v) 2 == h && decide (fI (pk ps v) 1 ≤ n)) with
        | false =>
          refine .inr ⟨_, rfl, rfl, ?_⟩
          show (isK ps v && (fI (pk ps v) 2 == h && decide (fI (pk ps v) 1 ≤ n) && _)) = false
          rw [hv, hc]; rfl
        | true =>
          have h2 : fI (pk ps v) 1 ≤ n := by
            simp only [Bool.and_eq_true, decide_eq_true_eq] at hc
            exact hc.2
          rw [wrap64 (by omega) (by omega)]
          have hf : fitsL ps rc n h (v :: (nums ws).drop (k + 1)) = fitsL ps rc (n - fI (pk ps v) 1) (fI (pk ps v) 3) ((nums ws).drop (k + 1)) := by
            show (isK ps v && (fI (pk ps v) 2 == h && decide (fI (pk ps v) 1 ≤ n) && _)) = _
            rw [hv, hc]
            simp
          refine .inl ⟨(true, n - fI (pk ps v) 1, fI (pk ps v) 3), rfl, ⟨?_, ?_⟩, fun y hy => ?_⟩
          · show 0 ≤ n - fI (pk ps v) 1
            omega
          · show n - fI (pk ps v) 1 ≤ 2000
            omega
          · simp only [hf]
            exact hy
    · obtain ⟨b, n, h⟩ := s
      refine ⟨.x1 b (ws.length : Int) n h, ?_, ?_⟩
      · show stp64a ra rb rc ps false ws (ws.length : Int) b (ws.length : Int) n h = _
        unfold stp64a
        rw [lt_false]; rfl
      · show (n == 0 && h == rc) = fitsL ps rc n h ((nums ws).drop ws.length)
        rw [List.drop_of_length_le (by rw [nums_len]; exact Nat.le_refl _)]
        rfl
  obtain ⟨y, hy, hv⟩ := run
  have p0 : w52_0 ra rb rc ps = ra := rfl
  have p1 : w52_1 ra rb rc ps = rb := rfl
  unfold g64 w64_0 t64 i64a_0 i64a_1 v64a_0_t4' v64a_1_m4_0 v64a_1_m4_1
  rw [p0, p1, hy]
  rw [List.drop_zero] at hv
  cases y with
  | x0 t _ _ _ _ => exact ⟨rfl, hv.1.trans hv.2.symm⟩
  | x1 _ _ m0 m1 => exact ⟨rfl, hv⟩
def cntIn (j : Nat) : List Int → Int
  | [] => 0
  | k :: ks => (if k = (j : Int) then 1 else 0) + cntIn j ks
theorem cntIn_cons (j : Nat) (k : Int) (ks : List Int) : cntIn j (k :: ks) = (if k = (j : Int) then 1 else 0) + cntIn j ks := rfl
def allK (ps : List (List AV)) (ks : List Int) : Prop := ∀ k, k ∈ ks → isK ps k = true
theorem fitsL_all {ps : List (List AV)} {c : Int} : ∀ {ks : List Int} {n b : Int}, fitsL ps c n b ks = true → allK ps ks
  | [], _, _, _ => fun k hk => by simp at hk
  | k :: ks, n, b, h => by
    have h : (isK ps k && (fI (pk ps k) 2 == b && decide (fI (pk ps k) 1 ≤ n) && fitsL ps c (n - fI (pk ps k) 1) (fI (pk ps k) 3) ks)) = true := h
    rw [Bool.and_eq_true, Bool.and_eq_true] at h
    intro q hq
    rcases List.mem_cons.1 hq with rfl | hq
    · exact h.1
    · exact fitsL_all h.2.2 q hq
theorem isK_nat {ps : List (List AV)} {k : Int} (h : isK ps k = true) : ∃ q : Nat, k = (q : Int) ∧ q < ps.length := by
  simp only [isK, Bool.and_eq_true, decide_eq_true_eq] at h
  exact ⟨k.toNat, by omega, by omega⟩
theorem needs34 {ps ws : List (List AV)} (t5 : Int) (hw : ws.length < 9223372036854775807) (hall : allK ps (nums ws)) :
    r34a t5 ps.length ws (ws.length : Int) 0 (ones (fun _ => 0) ps.length) = some (.x0 (ws.length : Int) (ones (fun j => cntIn j (nums ws)) ps.length)) := by
  have run : ∃ y, r34a t5 ps.length ws (ws.length : Int) 0 (ones (fun _ => 0) ps.length) = some y ∧ y = .x0 (ws.length : Int) (ones (fun j => 0 + cntIn j ((nums ws).drop 0)) ps.length) := by
    unfold r34a
    refine run_for (S := Nat → Int) ws.length (fun k f => (⟨(k : Int), ones f ps.length⟩ : S34a)) (fun k f => ∀ j, 0 ≤ f j ∧ f j ≤ k) (fun k f (y : T34a) => y = .x0 (ws.length : Int) (ones (fun j => f j + cntIn j ((nums ws).drop k)) ps.length)) (fun k f hk hf => ?_) (fun f hf => ?_) 0 (fun _ => 0) (Nat.zero_le _) (fun j => ⟨Int.le_refl _, Int.le_refl _⟩)
    · left
      have hm : isK ps (fI (ws.getD k []) 0) = true := hall _ (by
        unfold nums
        exact List.mem_map.2 ⟨_, drop_mem [] hk, rfl⟩)
      have hd := nums_drop hk
      obtain ⟨q, hq, hql⟩ := isK_nat hm
      have fq := hf q
      refine ⟨upd f q (f q + 1), ?_, fun j => ?_, fun y hy => ?_⟩
      · show stp34a t5 ps.length ws (ws.length : Int) (k : Int) (ones f ps.length) = _
        unfold stp34a
        have hb : q.blt (ones f ps.length).length = true := by
          rw [ones_len]
          simpa [Nat.blt_eq] using hql
        simp only [lt_true hk, inb_true hk, cond_true, Int.toNat_natCast, wrap_succ (show k < 9223372036854775807 by omega), hq, inb_true hql, hb, Bool.and_true, Nat.zero_add, ones_get hql]
        have e1 : fI [AV.i IntKind.i64 (f q)] 0 = f q := rfl
        rw [e1, wrap64 (by omega) (by omega)]
        have e2 : setCs [AV.i IntKind.i64 (f q)] 0 [AV.i IntKind.i64 (f q + 1)] = [AV.i IntKind.i64 (f q + 1)] := rfl
        rw [e2, ones_set hql]
      · have := hf j
        unfold upd
        split <;> omega
      · rw [hy, hd]
        congr 2
        funext j
        rw [hq]
        rw [cntIn_cons]
        unfold upd
        by_cases e : j = q
        · subst e; simp; omega
        · have : ¬ (q : Int) = (j : Int) := by omega
          simp [e, this]
    · refine ⟨.x0 (ws.length : Int) (ones f ps.length), ?_, ?_⟩
      · show stp34a t5 ps.length ws (ws.length : Int) (ws.length : Int) (ones f ps.length) = _
        unfold stp34a
        rw [lt_false]; rfl
      · rw [List.drop_of_length_le (by rw [nums_len]; exact Nat.le_refl _)]
        simp [cntIn]
  obtain ⟨y, h1, h2⟩ := run
  rw [h1, h2]
  simp
theorem make_ok {n : Nat} (h : n ≤ 10) : (decide ((n : Int) = (n : Int)) && (decide (0 ≤ (n : Int)) && decide ((n : Int) * (8 : Int) ≤ 140737488355328) && decide ((n : Int) ≤ 9223372036854775807))) = true := by
  simp only [Bool.and_eq_true, decide_eq_true_eq]
  exact ⟨trivial, ⟨by omega, by omega⟩, by omega⟩
def needL (ps : List (List AV)) (ks : List Int) : List (List AV) := ones (fun j => cntIn j ks) ps.length
theorem needs_val {ra rb rc : Int} {ps ws : List (List AV)} (hF : Fine ra rb rc ps) (h0 : w29_0 ra rb rc ps = 0) (hw : ws.length < 9223372036854775807) :
    g34 ra rb rc ps ws = true ∧ w34_1 ra rb rc ps ws = (if fitsL ps rc ra rb (nums ws) then 0 else 8) ∧ w34_0 ra rb rc ps ws = (if fitsL ps rc ra rb (nums ws) then needL ps (nums ws) else []) := by
  obtain ⟨f1, f2⟩ := fits_val hF hw
  have hz : (w29_0 ra rb rc ps != 0) = false := by simp [h0]
  unfold g34 w34_1 w34_0 t34
  rw [g29_true, hz, f1, f2]
  cases hf : fitsL ps rc ra rb (nums ws) with
  | false => exact ⟨rfl, rfl, rfl⟩
  | true =>
    have hr := needs34 0 hw (fitsL_all hf)
    have hl := hF.ps.1
    rw [make_ok hl]
    simp only [Int.toNat_natCast, ones_zero]
    unfold i34a_0 v34a_0_m15
    rw [hr]
    simp only [ones_len, Nat.zero_add, Nat.beq_refl, Bool.not_true, cond_true, cond_false, Tr.g, Tr.val, if_true, show ps.length.ble ps.length = true by simp [Nat.ble_eq]]
    exact ⟨trivial, trivial, rfl⟩
theorem fitsE_val {ra rb rc : Int} {ps ws : List (List AV)} (hF : Fine ra rb rc ps) (h0 : w29_0 ra rb rc ps = 0) (hw : ws.length < 9223372036854775807) :
    g30 ra rb rc ps ws = true ∧ w30_1 ra rb rc ps ws = 0 ∧ w30_0 ra rb rc ps ws = fitsL ps rc ra rb (nums ws) := by
  obtain ⟨f1, f2⟩ := fits_val hF hw
  have hz : ((0 : Int) != 0) = false := by decide
  unfold g30 w30_1 w30_0 t30
  rw [g29_true, h0, hz, f1, f2]
  exact ⟨rfl, rfl, rfl⟩
theorem fine_of {ra rb rc : Int} {ps : List (List AV)} (h : w29_0 ra rb rc ps = 0) : Fine ra rb rc ps := by
  rcases check_err ra rb rc ps with h' | ⟨h', _⟩
  · exact absurd h h'
  · exact h'
def wd (ps : List (List AV)) (k : Nat) : Nat := pL (ps.getD k [])
def lf (ps : List (List AV)) (k : Nat) : Nat := pA (ps.getD k [])
def rt (ps : List (List AV)) (k : Nat) : Nat := pB (ps.getD k [])
def sm (ps : List (List AV)) (c n h k : Nat) : Int := (ps.take k).foldl (acc (fun m => cnt ps c m) n h) 0
theorem okC (ps : List (List AV)) (c : Nat) : okT (fun m => cnt ps c m) := fun n h => cnt_ok ps c n h
theorem sm_zero (ps : List (List AV)) (c n h : Nat) : sm ps c n h 0 = 0 := rfl
theorem sm_len {ps : List (List AV)} {c n h : Nat} (hps : okPs ps) (hn : 0 < n) : sm ps c n h ps.length = cnt ps c n h := by
  obtain ⟨m, rfl⟩ : ∃ m, n = m + 1 := ⟨n - 1, by omega⟩
  unfold sm
  rw [List.take_length, cnt_rec hps]
theorem sm_le {ps : List (List AV)} {c n h : Nat} (hps : okPs ps) (hn : 0 < n) (k : Nat) : 0 ≤ sm ps c n h k ∧ sm ps c n h k ≤ cnt ps c n h := by
  obtain ⟨h1, h2⟩ := take_le (ps := ps) (i := n) (h := h) (okC ps c) k
  refine ⟨h2, ?_⟩
  have := sm_len (c := c) (h := h) hps hn
  unfold sm at this ⊢
  rw [List.take_length] at this
  rw [← this]
  exact h1
theorem sm_succ {ps : List (List AV)} {c n h k : Nat} (hps : okPs ps) (hn : 0 < n) (hk : k < ps.length) (hs : cnt ps c n h ≤ 1000000000000000) :
    sm ps c n h (k + 1) = sm ps c n h k + (if lf ps k = h ∧ wd ps k ≤ n then cnt ps c (n - wd ps k) (rt ps k) else 0) := by
  have h1 := (sm_le (c := c) (h := h) hps hn (k + 1)).2
  have h2 := (sm_le (c := c) (h := h) hps hn k)
  have ht : sm ps c n h (k + 1) = acc (fun m => cnt ps c m) n h (sm ps c n h k) (ps.getD k []) := take_acc hk
  rw [ht] at h1 ⊢
  unfold acc at h1 ⊢
  have e : (pA (ps.getD k []) = h ∧ pL (ps.getD k []) ≤ n) = (lf ps k = h ∧ wd ps k ≤ n) := rfl
  simp only [e] at h1 ⊢
  split
  · rename_i hc
    rw [if_pos hc] at h1
    have hx := cnt_ok ps c (n - wd ps k) (rt ps k)
    change bmin (sm ps c n h k + cnt ps c (n - wd ps k) (rt ps k)) cap = _
    change bmin (sm ps c n h k + cnt ps c (n - wd ps k) (rt ps k)) cap ≤ _ at h1
    rw [bmin_le] at h1 ⊢
    unfold cap at *
    split at h1
    · rw [if_pos (by assumption)]
    · omega
  · omega
theorem sm_mono {ps : List (List AV)} {c n h : Nat} (hps : okPs ps) (hn : 0 < n) (hs : cnt ps c n h ≤ 1000000000000000) : ∀ {i j : Nat}, i ≤ j → j ≤ ps.length → sm ps c n h i ≤ sm ps c n h j
  | i, 0, h1, h2 => by
    have : i = 0 := by omega
    subst this; exact Int.le_refl _
  | i, j + 1, h1, h2 => by
    rcases Nat.eq_or_lt_of_le h1 with e | e
    · rw [e]; exact Int.le_refl _
    · refine Int.le_trans (sm_mono hps hn hs (Nat.le_of_lt_succ e) (by omega)) ?_
      rw [sm_succ hps hn (by omega) hs]
      have hx := cnt_ok ps c (n - wd ps j) (rt ps j)
      split <;> omega
theorem pc_ok {ps : List (List AV)} (hps : okPs ps) {k : Nat} (hk : k < ps.length) : okPc (ps.getD k []) := hps.2 _ (drop_mem [] hk)
theorem pc_nat {ps : List (List AV)} (hps : okPs ps) {k : Nat} (hk : k < ps.length) : fI (ps.getD k []) 1 = (wd ps k : Int) ∧ fI (ps.getD k []) 2 = (lf ps k : Int) ∧ fI (ps.getD k []) 3 = (rt ps k : Int) ∧ 1 ≤ wd ps k ∧ wd ps k ≤ 2000 ∧ lf ps k < 10 ∧ rt ps k < 10 := by
  obtain ⟨b1, b2, b3, b4, b5, b6⟩ := pc_ok hps hk
  unfold wd lf rt pL pA pB
  omega
theorem sm_fits {ps : List (List AV)} {c n h k : Nat} {x : Int} (hps : okPs ps) (hn : 0 < n) (hk : k < ps.length) (hs : cnt ps c n h ≤ 1000000000000000) (h1 : sm ps c n h k ≤ x) (h2 : x < sm ps c n h (k + 1)) :
    (lf ps k = h ∧ wd ps k ≤ n) ∧ 0 ≤ x - sm ps c n h k ∧ x - sm ps c n h k < cnt ps c (n - wd ps k) (rt ps k) ∧ cnt ps c (n - wd ps k) (rt ps k) ≤ 1000000000000000 := by
  rw [sm_succ hps hn hk hs] at h2
  split at h2
  · rename_i hc
    refine ⟨hc, by omega, by omega, ?_⟩
    have h3 := (sm_le (c := c) (h := h) hps hn (k + 1)).2
    rw [sm_succ hps hn hk hs, if_pos hc] at h3
    have := (sm_le (c := c) (h := h) hps hn k).1
    omega
  · omega
inductive NthR (ps : List (List AV)) (c : Nat) : Nat → Nat → Int → List Nat → Prop
  | nil : NthR ps c 0 c 0 []
  | cons {n h i : Nat} {x : Int} {row : List Nat} : 0 < n → i < ps.length → sm ps c n h i ≤ x → x < sm ps c n h (i + 1) → NthR ps c (n - wd ps i) (rt ps i) (x - sm ps c n h i) row → NthR ps c n h x (i :: row)
theorem sm_uniq {ps : List (List AV)} {c n h i j : Nat} {x : Int} (hps : okPs ps) (hn : 0 < n) (hs : cnt ps c n h ≤ 1000000000000000) (hi : i < ps.length) (hj : j < ps.length) (h1 : sm ps c n h i ≤ x) (h2 : x < sm ps c n h (i + 1)) (h3 : sm ps c n h j ≤ x) (h4 : x < sm ps c n h (j + 1)) : i = j := by
  rcases Nat.lt_trichotomy i j with e | e | e
  · have := sm_mono (c := c) (h := h) hps hn hs (show i + 1 ≤ j from e) (by omega)
    omega
  · exact e
  · have := sm_mono (c := c) (h := h) hps hn hs (show j + 1 ≤ i from e) (by omega)
    omega
theorem NthR_uniq {ps : List (List AV)} {c n h : Nat} {x : Int} {row row' : List Nat} (hps : okPs ps) (h1 : NthR ps c n h x row) : cnt ps c n h ≤ 1000000000000000 → NthR ps c n h x row' → row = row' := by
  induction h1 generalizing row' with
  | nil =>
    intro hs h2
    cases h2 with
    | nil => rfl
    | cons h0 _ _ _ _ => omega
  | cons h0 hi ha hb hr ih =>
    intro hs h2
    cases h2 with
    | nil => omega
    | cons g0 gi ga gb gr =>
      have := sm_uniq hps h0 hs hi gi ha hb ga gb
      subst this
      obtain ⟨_, _, _, h4⟩ := sm_fits hps h0 hi hs ha hb
      rw [ih h4 gr]
def rowI (row : List Nat) : List Int := row.map fun (i : Nat) => (i : Int)
theorem nums_rowAV (row : List Nat) : nums (rowAV row) = rowI row := by
  unfold nums rowAV rowI
  rw [List.map_map]
  rfl
theorem cnt_zero (ps : List (List AV)) (c h : Nat) : cnt ps c 0 h = if h = c then 1 else 0 := rfl
theorem tab_cnt {ps : List (List AV)} {c N n h : Nat} (hn : n ≤ N) (hh : h < 10) : g51 (tab (N + 1) (tabs ps c N)) (n : Int) (h : Int) = true ∧ w51_0 (tab (N + 1) (tabs ps c N)) (n : Int) (h : Int) = cnt ps c n h := by
  obtain ⟨h1, h2⟩ := of_tab (N := N + 1) (n := n) (b := h) (T := tabs ps c N) (by omega) hh
  refine ⟨h1, h2.trans ?_⟩
  rw [tabs_stable ps c hn]
  rfl
theorem tab_toI {ps : List (List AV)} {c N n h : Nat} (hn : n ≤ N) (hh : h < 10) : toI (((tab (N + 1) (tabs ps c N)).getD n []).getD h AV.u) = cnt ps c n h := by
  rw [tab_get (by omega), tabR_get hh, tabs_stable ps c hn]
  rfl
theorem piece40 {ra rb rc t5 : Int} {ps T9 : List (List AV)} {c N n h : Nat} {x : Int} (hps : okPs ps) (hN : N ≤ 2000) (hn : 0 < n) (hnN : n ≤ N) (hh : h < 10) (h9 : T9.length ≤ 4000) (hx : 0 ≤ x) (hx2 : x < cnt ps c n h) (hs : cnt ps c n h ≤ 1000000000000000) :
    ∃ i, i < ps.length ∧ sm ps c n h i ≤ x ∧ x < sm ps c n h (i + 1) ∧
      r40aa ra rb rc ps t5 (tab (N + 1) (tabs ps c N)) T9 ps (ps.length : Int) (n : Int) (h : Int) x 0 = some (.x0 (x - sm ps c n h i) (T9 ++ [[.i .i64 (i : Int)]]) (i : Int) ((n - wd ps i : Nat) : Int) (rt ps i : Int)) := by
  have hl := hps.1
  have run : ∃ y, r40aa ra rb rc ps t5 (tab (N + 1) (tabs ps c N)) T9 ps (ps.length : Int) (n : Int) (h : Int) x 0 = some y ∧ (∃ i, i < ps.length ∧ sm ps c n h i ≤ x ∧ x < sm ps c n h (i + 1) ∧ y = .x0 (x - sm ps c n h i) (T9 ++ [[.i .i64 (i : Int)]]) (i : Int) ((n - wd ps i : Nat) : Int) (rt ps i : Int)) := by
    unfold r40aa
    refine run_for (S := Int) ps.length (fun k s => (⟨s, (k : Int)⟩ : S40aa)) (fun k s => s = x - sm ps c n h k ∧ sm ps c n h k ≤ x) (fun _ _ (y : T40aa) => ∃ i, i < ps.length ∧ sm ps c n h i ≤ x ∧ x < sm ps c n h (i + 1) ∧ y = .x0 (x - sm ps c n h i) (T9 ++ [[.i .i64 (i : Int)]]) (i : Int) ((n - wd ps i : Nat) : Int) (rt ps i : Int)) (fun k s hk hi => ?_) (fun s hi => ?_) 0 x (Nat.zero_le _) ⟨by rw [sm_zero]; omega, hx⟩
    · obtain ⟨rfl, hle⟩ := hi
      obtain ⟨p1, p2, p3, p4, p5, p6, p7⟩ := pc_nat hps hk
      have hsu := sm_succ (c := c) (h := h) hps hn hk hs
      have hsl := sm_le (c := c) (h := h) hps hn k
      show (∃ s', stp40aa ra rb rc ps t5 (tab (N + 1) (tabs ps c N)) T9 ps (ps.length : Int) (n : Int) (h : Int) (x - sm ps c n h k) (k : Int) = _ ∧ _) ∨ ∃ y, stp40aa ra rb rc ps t5 (tab (N + 1) (tabs ps c N)) T9 ps (ps.length : Int) (n : Int) (h : Int) (x - sm ps c n h k) (k : Int) = _ ∧ _
      unfold stp40aa
      rw [Int.toNat_natCast]
      simp only [lt_true hk, inb_true hk, cond_true, wrap_succ (show k < 9223372036854775807 by omega), g71_true, w71_all, p1, p2, p3]
      by_cases hc : lf ps k = h ∧ wd ps k ≤ n
      · rw [if_pos hc] at hsu
        have e1 : ((lf ps k : Int) == (h : Int) && decide ((wd ps k : Int) ≤ (n : Int))) = true := by
          rw [Bool.and_eq_true, decide_eq_true_eq, beq_iff_eq]
          omega
        have e2 : IntKind.i64.wrap ((n : Int) - (wd ps k : Int)) = ((n - wd ps k : Nat) : Int) := (wrap64 (by omega) (by omega)).trans (by omega)
        obtain ⟨t1, t2⟩ := tab_cnt (ps := ps) (c := c) (N := N) (n := n - wd ps k) (h := rt ps k) (by omega) p7
        simp only [e1, e2, t1, t2, Bool.not_true, cond_false, cond_true]
        have hco := cnt_ok ps c (n - wd ps k) (rt ps k)
        by_cases hge : x - sm ps c n h k ≥ cnt ps c (n - wd ps k) (rt ps k)
        · left
          rw [decide_eq_true hge, wrap64 (by omega) (by omega)]
          exact ⟨x - sm ps c n h (k + 1), by rw [cond_true, hsu, Int.sub_sub], ⟨rfl, by omega⟩, fun y hy => hy⟩
        · right
          rw [decide_eq_false hge]
          have l1 : (T9.length + [[AV.i IntKind.i64 (k : Int)]].length).ble 9223372036854775807 = true := by
            rw [Nat.ble_eq]
            show T9.length + 1 ≤ _
            omega
          have l2 : ((T9.length + [[AV.i IntKind.i64 (k : Int)]].length) * 8).ble 140737488355328 = true := by
            rw [Nat.ble_eq]
            show (T9.length + 1) * 8 ≤ _
            omega
          rw [l1, l2]
          exact ⟨_, rfl, k, hk, hle, by omega, rfl⟩
      · rw [if_neg hc] at hsu
        have e1 : ((lf ps k : Int) == (h : Int) && decide ((wd ps k : Int) ≤ (n : Int))) = false := by
          rw [Bool.eq_false_iff]
          intro h'
          rw [Bool.and_eq_true, decide_eq_true_eq, beq_iff_eq] at h'
          exact hc (by omega)
        rw [e1]
        left
        exact ⟨x - sm ps c n h (k + 1), by rw [hsu, Int.add_zero]; rfl, ⟨rfl, by omega⟩, fun y hy => hy⟩
    · have := sm_len (c := c) (h := h) hps hn
      omega
  obtain ⟨y, h1, i, h2, h3, h4, h5⟩ := run
  exact ⟨i, h2, h3, h4, by rw [h1, h5]⟩
theorem cnt_pos_zero {ps : List (List AV)} {c h : Nat} {x : Int} (h1 : 0 ≤ x) (h2 : x < cnt ps c 0 h) : h = c ∧ x = 0 := by
  rw [cnt_zero] at h2
  split at h2
  · exact ⟨by assumption, by omega⟩
  · omega
theorem nth40 {ra rb rc t5 : Int} {ps : List (List AV)} {c N h : Nat} {x : Int} (hps : okPs ps) (hN : N ≤ 2000) (hh : h < 10) (hx : 0 ≤ x) (hx2 : x < cnt ps c N h) (hs : cnt ps c N h ≤ 1000000000000000) :
    ∃ row, NthR ps c N h x row ∧ ∃ a b, r40a ra rb rc ps t5 (tab (N + 1) (tabs ps c N)) x [] (N : Int) (h : Int) = some (.x0 a (rowAV row) 0 b) := by
  have run : ∃ y, r40a ra rb rc ps t5 (tab (N + 1) (tabs ps c N)) x [] (N : Int) (h : Int) = some y ∧ (∃ row, NthR ps c N h x row ∧ ∃ a b, y = .x0 a ([] ++ rowAV row) 0 b) := by
    unfold r40a
    refine run_while (S := Int × List (List AV) × Nat × Nat) (fun s => s.2.2.1) (fun s => (⟨s.1, s.2.1, (s.2.2.1 : Int), (s.2.2.2 : Int)⟩ : S40a)) (fun s => s.2.2.1 ≤ N ∧ s.2.2.2 < 10 ∧ s.2.1.length + s.2.2.1 ≤ 2000 ∧ 0 ≤ s.1 ∧ s.1 < cnt ps c s.2.2.1 s.2.2.2 ∧ cnt ps c s.2.2.1 s.2.2.2 ≤ 1000000000000000)
      (fun s (y : T40a) => ∃ row, NthR ps c s.2.2.1 s.2.2.2 s.1 row ∧ ∃ a b, y = .x0 a (s.2.1 ++ rowAV row) 0 b) (fun s hi => ?_) (x, [], N, h) ⟨Nat.le_refl _, hh, by show 0 + N ≤ 2000; omega, hx, hx2, hs⟩
    obtain ⟨x, T9, n, h⟩ := s
    obtain ⟨i1, i2, i3, i4, i5, i6⟩ := hi
    simp only at i1 i2 i3 i4 i5 i6
    show (∃ s', stp40a ra rb rc ps t5 (tab (N + 1) (tabs ps c N)) x T9 (n : Int) (h : Int) = _ ∧ _) ∨ ∃ y, stp40a ra rb rc ps t5 (tab (N + 1) (tabs ps c N)) x T9 (n : Int) (h : Int) = _ ∧ _
    unfold stp40a
    rcases Nat.eq_zero_or_pos n with rfl | hn
    · right
      obtain ⟨rfl, rfl⟩ := cnt_pos_zero i4 i5
      exact ⟨_, rfl, [], .nil, 0, (h : Int), by rw [show rowAV [] = [] from rfl, List.append_nil]; rfl⟩
    · left
      have d : decide ((n : Int) > 0) = true := decide_eq_true (by omega)
      obtain ⟨i, j1, j2, j3, j4⟩ := piece40 (ra := ra) (rb := rb) (rc := rc) (t5 := t5) (T9 := T9) hps hN hn i1 i2 (by omega) i4 i5 i6
      obtain ⟨q1, q2, q3, q4⟩ := sm_fits hps hn j1 i6 j2 j3
      obtain ⟨p1, p2, p3, p4, p5, p6, p7⟩ := pc_nat hps j1
      unfold i40aa_0 v40aa_0_t1 v40aa_0_t9' v40aa_0_m14_0' v40aa_0_m14_1'
      rw [j4, d]
      refine ⟨(x - sm ps c n h i, T9 ++ [[.i .i64 (i : Int)]], n - wd ps i, rt ps i), rfl, ⟨by show n - wd ps i ≤ N; omega, p7, ?_, q2, q3, q4⟩, ?_, ?_⟩
      · show (T9 ++ [[AV.i .i64 (i : Int)]]).length + (n - wd ps i) ≤ 2000
        rw [List.length_append]
        show T9.length + 1 + (n - wd ps i) ≤ 2000
        omega
      · show n - wd ps i < n
        omega
      · rintro y ⟨row, hr, a, b, rfl⟩
        refine ⟨i :: row, .cons hn j1 j2 j3 hr, a, b, ?_⟩
        show T40a.x0 a ((T9 ++ [[AV.i .i64 (i : Int)]]) ++ rowAV row) 0 b = _
        rw [List.append_assoc]
        rfl
  obtain ⟨y, h1, row, h2, a, b, h3⟩ := run
  exact ⟨row, h2, a, b, by rw [h1, h3]; rfl⟩
theorem counted_val {ps : List (List AV)} {n b c : Nat} (hps : okPs ps) (hn : n ≤ 2000) (hb : b < 10) (hc : c < 10) (hw : w29_0 (n : Int) (b : Int) (c : Int) ps = 0) :
    g50 (n : Int) (b : Int) (c : Int) ps = true ∧
    ((cnt ps c n b > 1000000000000000 ∧ w50_1 (n : Int) (b : Int) (c : Int) ps = 3) ∨
     (cnt ps c n b ≤ 1000000000000000 ∧ w50_1 (n : Int) (b : Int) (c : Int) ps = 0 ∧ w50_0 (n : Int) (b : Int) (c : Int) ps = tab (n + 1) (tabs ps c n))) := by
  obtain ⟨c1, c2⟩ := count_val (rb := (b : Int)) hps hn hc
  obtain ⟨o1, o2⟩ := tab_cnt (ps := ps) (c := c) (N := n) (n := n) (h := b) (Nat.le_refl _) hb
  have o3 := tab_toI (ps := ps) (c := c) (N := n) (n := n) (h := b) (Nat.le_refl _) hb
  have p0 : w52_0 (n : Int) (b : Int) (c : Int) ps = (n : Int) := rfl
  have p1 : w52_1 (n : Int) (b : Int) (c : Int) ps = (b : Int) := rfl
  have hz : (w29_0 (n : Int) (b : Int) (c : Int) ps != 0) = false := by simp [hw]
  have cb := cts91 hb
  simp only [Int.toNat_natCast, Nat.zero_add, Nat.mul_one] at cb
  have ib : inb (b : Int) 10 = true := by simp [inb_nat, hb]
  have i0 : inb (n : Int) (n + 1) = true := by simp [inb_nat]
  unfold g50 w50_1 w50_0 t50
  simp only [g29_true, hz, c1, c2, p0, p1, o1, o2]
  cases hd : decide (cnt ps c n b > 1000000000000000) with
  | true => exact ⟨rfl, .inl ⟨of_decide_eq_true hd, rfl⟩⟩
  | false => exact ⟨rfl, .inr ⟨by have := of_decide_eq_false hd; omega, rfl, rfl⟩⟩
theorem nth_val {ps : List (List AV)} {n b c : Nat} {x : Int} (hps : okPs ps) (hn : n ≤ 2000) (hb : b < 10) (hc : c < 10) (hw : w29_0 (n : Int) (b : Int) (c : Int) ps = 0) (hs : cnt ps c n b ≤ 1000000000000000) (hx : 0 ≤ x ∧ x < cnt ps c n b) :
    ∃ row, NthR ps c n b x row ∧ (g40 (n : Int) (b : Int) (c : Int) ps x = true ∧ w40_1 (n : Int) (b : Int) (c : Int) ps x = 0 ∧ w40_0 (n : Int) (b : Int) (c : Int) ps x = rowAV row) := by
  obtain ⟨g1, g3⟩ := counted_val hps hn hb hc hw
  rcases g3 with ⟨h1, _⟩ | ⟨_, h1, h2⟩
  · omega
  obtain ⟨o1, o2⟩ := tab_cnt (ps := ps) (c := c) (N := n) (n := n) (h := b) (Nat.le_refl _) hb
  have p0 : w52_0 (n : Int) (b : Int) (c : Int) ps = (n : Int) := rfl
  have p1 : w52_1 (n : Int) (b : Int) (c : Int) ps = (b : Int) := rfl
  have hco := cnt_ok ps c n b
  have ew : IntKind.i64.wrap (cnt ps c n b - 1) = cnt ps c n b - 1 := wrap64 (by omega) (by omega)
  have z1 : ((0 : Int) != 0) = false := by decide
  have hd : (decide (0 ≤ x) && decide (x ≤ cnt ps c n b - 1)) = true := by
    rw [Bool.and_eq_true, decide_eq_true_eq, decide_eq_true_eq]
    omega
  obtain ⟨row, hr, a1, a2, a3⟩ := nth40 (ra := (n : Int)) (rb := (b : Int)) (rc := (c : Int)) (t5 := 0) hps hn hb hx.1 hx.2 hs
  refine ⟨row, hr, ?_⟩
  unfold g40 w40_1 w40_0 t40
  simp only [g1, h1, h2, z1, p0, p1, o1, o2, ew, g55_true, w55_eq, hd]
  unfold i40a_0 v40a_0_t9
  rw [a3]
  exact ⟨rfl, rfl, rfl⟩
def rankL (ps : List (List AV)) (c : Nat) : Nat → Nat → List Int → Int
  | _, _, [] => 0
  | n, h, k :: ks => sm ps c n h k.toNat + rankL ps c (n - wd ps k.toNat) (rt ps k.toNat) ks
theorem fitsL_cons {ps : List (List AV)} {c n h : Nat} {k : Int} {ks : List Int} (hps : okPs ps) (h1 : fitsL ps (c : Int) (n : Int) (h : Int) (k :: ks) = true) :
    ∃ q : Nat, k = (q : Int) ∧ q < ps.length ∧ lf ps q = h ∧ wd ps q ≤ n ∧ 0 < n ∧ fitsL ps (c : Int) ((n - wd ps q : Nat) : Int) (rt ps q : Int) ks = true := by
  have h1 : (isK ps k && (fI (pk ps k) 2 == (h : Int) && decide (fI (pk ps k) 1 ≤ (n : Int)) && fitsL ps (c : Int) ((n : Int) - fI (pk ps k) 1) (fI (pk ps k) 3) ks)) = true := h1
  rw [Bool.and_eq_true, Bool.and_eq_true, Bool.and_eq_true, beq_iff_eq, decide_eq_true_eq] at h1
  obtain ⟨h2, ⟨h3, h4⟩, h5⟩ := h1
  obtain ⟨q, rfl, hq⟩ := isK_nat h2
  obtain ⟨p1, p2, p3, p4, p5, p6, p7⟩ := pc_nat hps hq
  have e : pk ps (q : Int) = ps.getD q [] := rfl
  rw [e] at h3 h4 h5
  rw [p1] at h4 h5
  rw [p2] at h3
  rw [p3] at h5
  refine ⟨q, rfl, hq, by omega, by omega, by omega, ?_⟩
  have : ((n - wd ps q : Nat) : Int) = (n : Int) - (wd ps q : Int) := by omega
  rw [this]
  exact h5
theorem rankL_lt {ps : List (List AV)} {c : Nat} (hps : okPs ps) : ∀ {ks : List Int} {n h : Nat}, cnt ps c n h ≤ 1000000000000000 → fitsL ps (c : Int) (n : Int) (h : Int) ks = true → 0 ≤ rankL ps c n h ks ∧ rankL ps c n h ks < cnt ps c n h
  | [], n, h, hs, hf => by
    have hf : ((n : Int) == 0 && (h : Int) == (c : Int)) = true := hf
    rw [Bool.and_eq_true, beq_iff_eq, beq_iff_eq] at hf
    obtain rfl : n = 0 := by omega
    obtain rfl : h = c := by omega
    rw [cnt_zero, if_pos rfl]
    show (0 : Int) ≤ 0 ∧ (0 : Int) < 1
    omega
  | k :: ks, n, h, hs, hf => by
    obtain ⟨q, rfl, hq, h1, h2, h3, h4⟩ := fitsL_cons hps hf
    have hsu := sm_succ (c := c) (h := h) hps h3 hq hs
    rw [if_pos ⟨h1, h2⟩] at hsu
    have hl := sm_le (c := c) (h := h) hps h3 (q + 1)
    have hl' := sm_le (c := c) (h := h) hps h3 q
    have := rankL_lt (c := c) hps (n := n - wd ps q) (h := rt ps q) (by omega) h4
    show 0 ≤ sm ps c n h q + rankL ps c (n - wd ps q) (rt ps q) ks ∧ sm ps c n h q + rankL ps c (n - wd ps q) (rt ps q) ks < _
    omega
theorem take_getD {ps : List (List AV)} {q j : Nat} (h : j < q) : (ps.take q).getD j [] = ps.getD j [] := by
  rw [List.getD_eq_getElem?_getD, List.getD_eq_getElem?_getD, List.getElem?_take, if_pos h]
theorem inner42 {ra rb rc t4 t5 t11 t31 t32 : Int} {ps ws : List (List AV)} {c N n h q : Nat} {s : Int} (hps : okPs ps) (hN : N ≤ 2000) (hn : 0 < n) (hnN : n ≤ N) (hq : q < ps.length) (hs0 : 0 ≤ s) (hs : s + cnt ps c n h ≤ 1000000000000000) :
    ∃ a, r42aa ra rb rc ps t4 t5 (tab (N + 1) (tabs ps c N)) t11 ws t31 t32 (ps.take q) ((ps.take q).length : Int) (n : Int) (h : Int) s 0 = some (.x0 (s + sm ps c n h q) a) := by
  have hl := hps.1
  have hql : (ps.take q).length = q := by rw [List.length_take]; omega
  have hco0 := cnt_ok ps c n h
  have run : ∃ y, r42aa ra rb rc ps t4 t5 (tab (N + 1) (tabs ps c N)) t11 ws t31 t32 (ps.take q) ((ps.take q).length : Int) (n : Int) (h : Int) s 0 = some y ∧ ∃ a, y = .x0 (s + sm ps c n h q) a := by
    unfold r42aa
    refine run_for (S := Int) q (fun k s => (⟨s, (k : Int)⟩ : S42aa)) (fun k u => u = s + sm ps c n h k) (fun _ _ (y : T42aa) => ∃ a, y = .x0 (s + sm ps c n h q) a) (fun k u hk hi => ?_) (fun u hi => ?_) 0 s (Nat.zero_le _) (by rw [sm_zero]; omega)
    · subst hi
      left
      have hkl : k < ps.length := by omega
      obtain ⟨p1, p2, p3, p4, p5, p6, p7⟩ := pc_nat hps hkl
      have hsu := sm_succ (c := c) (h := h) hps hn hkl (by omega)
      have hsl := sm_le (c := c) (h := h) hps hn k
      have hsl2 := sm_le (c := c) (h := h) hps hn (k + 1)
      refine ⟨s + sm ps c n h (k + 1), ?_, rfl, fun y hy => hy⟩
      show stp42aa ra rb rc ps t4 t5 (tab (N + 1) (tabs ps c N)) t11 ws t31 t32 (ps.take q) ((ps.take q).length : Int) (n : Int) (h : Int) (s + sm ps c n h k) (k : Int) = _
      unfold stp42aa
      rw [Int.toNat_natCast, hql]
      simp only [lt_true hk, inb_true hk, cond_true, wrap_succ (show k < 9223372036854775807 by omega), g71_true, w71_all, take_getD hk, p1, p2, p3]
      by_cases hc : lf ps k = h ∧ wd ps k ≤ n
      · rw [if_pos hc] at hsu
        have e1 : ((lf ps k : Int) == (h : Int) && decide ((wd ps k : Int) ≤ (n : Int))) = true := by
          rw [Bool.and_eq_true, decide_eq_true_eq, beq_iff_eq]
          omega
        have e2 : IntKind.i64.wrap ((n : Int) - (wd ps k : Int)) = ((n - wd ps k : Nat) : Int) := (wrap64 (by omega) (by omega)).trans (by omega)
        obtain ⟨t1, t2⟩ := tab_cnt (ps := ps) (c := c) (N := N) (n := n - wd ps k) (h := rt ps k) (by omega) p7
        have hco := cnt_ok ps c (n - wd ps k) (rt ps k)
        simp only [e1, e2, t1, t2, cond_true]
        rw [wrap64 (by omega) (by omega), hsu, Int.add_assoc]
      · rw [if_neg hc] at hsu
        have e1 : ((lf ps k : Int) == (h : Int) && decide ((wd ps k : Int) ≤ (n : Int))) = false := by
          rw [Bool.eq_false_iff]
          intro h'
          rw [Bool.and_eq_true, decide_eq_true_eq, beq_iff_eq] at h'
          exact hc (by omega)
        rw [e1, hsu, Int.add_zero]
        rfl
    · subst hi
      refine ⟨_, ?_, (q : Int), rfl⟩
      show stp42aa ra rb rc ps t4 t5 (tab (N + 1) (tabs ps c N)) t11 ws t31 t32 (ps.take q) ((ps.take q).length : Int) (n : Int) (h : Int) (s + sm ps c n h q) (q : Int) = _
      unfold stp42aa
      rw [hql, lt_false]; rfl
  obtain ⟨y, h1, a, h2⟩ := run
  exact ⟨a, by rw [h1, h2]⟩
theorem loop42 {ra rb rc t4 t5 : Int} {ps ws : List (List AV)} {c N b : Nat} (hps : okPs ps) (hN : N ≤ 2000) (hw : ws.length < 9223372036854775807) (hs : cnt ps c N b ≤ 1000000000000000) (hf : fitsL ps (c : Int) (N : Int) (b : Int) (nums ws) = true) :
    ∃ a1 a2 a3, r42a ra rb rc ps t4 t5 (tab (N + 1) (tabs ps c N)) ws (ws.length : Int) 0 0 (N : Int) (b : Int) = some (.x0 (rankL ps c N b (nums ws)) a1 a2 a3) := by
  have hl := hps.1
  have run : ∃ y, r42a ra rb rc ps t4 t5 (tab (N + 1) (tabs ps c N)) ws (ws.length : Int) 0 0 (N : Int) (b : Int) = some y ∧ ∃ a1 a2 a3, y = .x0 (0 + rankL ps c N b ((nums ws).drop 0)) a1 a2 a3 := by
    unfold r42a
    refine run_for (S := Int × Nat × Nat) ws.length (fun k s => (⟨s.1, (k : Int), (s.2.1 : Int), (s.2.2 : Int)⟩ : S42a)) (fun k s => s.2.1 ≤ N ∧ 0 ≤ s.1 ∧ s.1 + cnt ps c s.2.1 s.2.2 ≤ 1000000000000000 ∧ fitsL ps (c : Int) (s.2.1 : Int) (s.2.2 : Int) ((nums ws).drop k) = true)
      (fun k s (y : T42a) => ∃ a1 a2 a3, y = .x0 (s.1 + rankL ps c s.2.1 s.2.2 ((nums ws).drop k)) a1 a2 a3) (fun k s hk hi => ?_) (fun s hi => ?_) 0 (0, N, b) (Nat.zero_le _) ⟨Nat.le_refl _, Int.le_refl _, by show 0 + cnt ps c N b ≤ _; omega, by rw [List.drop_zero]; exact hf⟩
    · obtain ⟨s, n, h⟩ := s
      obtain ⟨i1, i2, i3, i4⟩ := hi
      simp only at i1 i2 i3 i4
      left
      rw [nums_drop hk] at i4 ⊢
      obtain ⟨q, hq, hql, h1, h2, h3, h4⟩ := fitsL_cons hps i4
      obtain ⟨p1, p2, p3, p4, p5, p6, p7⟩ := pc_nat hps hql
      have hco := cnt_ok ps c n h
      have hsu := sm_succ (c := c) (h := h) hps h3 hql (by omega)
      rw [if_pos ⟨h1, h2⟩] at hsu
      have hsl := sm_le (c := c) (h := h) hps h3 (q + 1)
      have hsl' := sm_le (c := c) (h := h) hps h3 q
      obtain ⟨a, ha⟩ := inner42 (ra := ra) (rb := rb) (rc := rc) (t4 := t4) (t5 := t5) (t11 := (q : Int)) (t31 := (ws.length : Int)) (t32 := (k : Int)) (ws := ws) hps hN h3 i1 hql i2 i3
      refine ⟨(s + sm ps c n h q, n - wd ps q, rt ps q), ?_, ⟨by show n - wd ps q ≤ N; omega, by show 0 ≤ s + sm ps c n h q; omega, by show s + sm ps c n h q + cnt ps c (n - wd ps q) (rt ps q) ≤ _; omega, h4⟩, ?_⟩
      · show stp42a ra rb rc ps t4 t5 (tab (N + 1) (tabs ps c N)) ws (ws.length : Int) s (k : Int) (n : Int) (h : Int) = _
        unfold stp42a
        rw [Int.toNat_natCast, hq]
        have d1 : (decide (0 ≤ (q : Int)) && decide ((q : Int) ≤ (ps.length : Int))) = true := by
          rw [Bool.and_eq_true, decide_eq_true_eq, decide_eq_true_eq]
          omega
        have e2 : IntKind.i64.wrap ((n : Int) - (wd ps q : Int)) = ((n - wd ps q : Nat) : Int) := (wrap64 (by omega) (by omega)).trans (by omega)
        unfold i42aa_0 v42aa_0_t8
        simp only [lt_true hk, inb_true hk, inb_true hql, d1, cond_true, wrap_succ (show k < 9223372036854775807 by omega), g71_true, w71_all, List.drop_zero, Int.toNat_natCast, p1, p2, p3, e2, ha]
      · rintro y ⟨a1, a2, a3, rfl⟩
        refine ⟨a1, a2, a3, ?_⟩
        show T42a.x0 (s + sm ps c n h q + rankL ps c (n - wd ps q) (rt ps q) ((nums ws).drop (k + 1))) a1 a2 a3 = _
        rw [hq]
        show _ = T42a.x0 (s + (sm ps c n h q + rankL ps c (n - wd ps q) (rt ps q) ((nums ws).drop (k + 1)))) a1 a2 a3
        rw [Int.add_assoc]
    · obtain ⟨s, n, h⟩ := s
      refine ⟨.x0 s (ws.length : Int) (n : Int) (h : Int), ?_, (ws.length : Int), (n : Int), (h : Int), ?_⟩
      · show stp42a ra rb rc ps t4 t5 (tab (N + 1) (tabs ps c N)) ws (ws.length : Int) s (ws.length : Int) (n : Int) (h : Int) = _
        unfold stp42a
        rw [lt_false]; rfl
      · rw [List.drop_of_length_le (by rw [nums_len]; exact Nat.le_refl _)]
        show T42a.x0 s _ _ _ = T42a.x0 (s + 0) _ _ _
        rw [Int.add_zero]
  obtain ⟨y, h1, a1, a2, a3, h2⟩ := run
  exact ⟨a1, a2, a3, by rw [h1, h2, List.drop_zero, Int.zero_add]⟩
theorem rank_err {ra rb rc : Int} {ps ws : List (List AV)} (h0 : w50_1 ra rb rc ps ≠ 0) (hg : g50 ra rb rc ps = true) :
    g42 ra rb rc ps ws = true ∧ w42_1 ra rb rc ps ws = w50_1 ra rb rc ps ∧ w42_0 ra rb rc ps ws = 0 := by
  have hz : (w50_1 ra rb rc ps != 0) = true := by simpa using h0
  unfold g42 w42_1 w42_0 t42
  rw [hg, hz]
  exact ⟨rfl, rfl, rfl⟩
theorem rank_val {ps ws : List (List AV)} {n b c : Nat} (hF : Fine (n : Int) (b : Int) (c : Int) ps) (hn : n ≤ 2000) (hb : b < 10) (hc : c < 10) (hw : w29_0 (n : Int) (b : Int) (c : Int) ps = 0) (hs : cnt ps c n b ≤ 1000000000000000) (hws : ws.length < 9223372036854775807) :
    g42 (n : Int) (b : Int) (c : Int) ps ws = true ∧ w42_1 (n : Int) (b : Int) (c : Int) ps ws = (if fitsL ps (c : Int) (n : Int) (b : Int) (nums ws) then 0 else 8) ∧ w42_0 (n : Int) (b : Int) (c : Int) ps ws = (if fitsL ps (c : Int) (n : Int) (b : Int) (nums ws) then rankL ps c n b (nums ws) else 0) := by
  have hps := hF.ps
  obtain ⟨g1, g3⟩ := counted_val hps hn hb hc hw
  rcases g3 with ⟨h1, _⟩ | ⟨_, h1, h2⟩
  · omega
  obtain ⟨f1, f2⟩ := fits_val hF hws
  have p0 : w52_0 (n : Int) (b : Int) (c : Int) ps = (n : Int) := rfl
  have p1 : w52_1 (n : Int) (b : Int) (c : Int) ps = (b : Int) := rfl
  have z1 : ((0 : Int) != 0) = false := by decide
  unfold g42 w42_1 w42_0 t42
  rw [g1, h1, h2, z1, p0, p1, f1, f2]
  cases hf : fitsL ps (c : Int) (n : Int) (b : Int) (nums ws) with
  | false => exact ⟨rfl, rfl, rfl⟩
  | true =>
    obtain ⟨a1, a2, a3, ha⟩ := loop42 (ra := (n : Int)) (rb := (b : Int)) (rc := (c : Int)) (t4 := 0) (t5 := 0) hps hn hws hs hf
    unfold i42a_0 v42a_0_t8
    rw [ha]
    exact ⟨rfl, rfl, rfl⟩
end Go.Proofs.Ytfbfohkgajeopac

set_option maxRecDepth 100000
set_option linter.unusedVariables false
namespace Go.Proofs.Ytfbfohkgajeopac
open Go Go.Ev
structure S18a where
  t3 : Int
  t4 : Int
inductive T18a where
  | x0 (t3 : Int) (t4 : Int)
noncomputable def stp18a (ra rb rc : Int) (ps : List (List AV)) (t2 : Bool) (t3 t4 : Int) : Lp S18a T18a :=
  cond (decide (t4 < (↑ps.length : Int))) (cond (decide (t4 ≤ 30)) (cond (inb t4 ps.length) (.go ⟨IntKind.i64.wrap (t3 + (↑(fS (ps.getD t4.toNat []) 0).size : Int)), IntKind.i64.wrap (t4 + 1)⟩) (.bad)) (.out (.x0 t3 t4))) (.out (.x0 t3 t4))
noncomputable def r18a (ra rb rc : Int) (ps : List (List AV)) (t2 : Bool) (t3 t4 : Int) : Option T18a := run (fun x => stp18a ra rb rc ps t2 x.t3 x.t4) (⟨t3, t4⟩ : S18a)
noncomputable def i18a_0 (ra rb rc : Int) (ps : List (List AV)) (t2 : Bool) (t3 t4 : Int) : Bool := match r18a ra rb rc ps t2 t3 t4 with
  | some (.x0 _ _) => true
  | _ => false
noncomputable def v18a_0_t3 (ra rb rc : Int) (ps : List (List AV)) (t2 : Bool) (t3 t4 : Int) : Int := match r18a ra rb rc ps t2 t3 t4 with
  | some (.x0 t3 _) => t3
  | _ => default
noncomputable def t18 (ra rb rc : Int) (ps : List (List AV)) : Tr ((Bool)) :=
  .cn (i18a_0 ra rb rc ps false 0 0) (.cn (decide (ra > 300)) (.cn (decide (ra ≤ 2000)) (.lf (true)) (.cn (decide ((↑ps.length : Int) > 30)) (.lf (true)) (.lf (decide (v18a_0_t3 ra rb rc ps false 0 0 > 2000))))) (.cn (decide ((↑ps.length : Int) > 30)) (.lf (true)) (.lf (decide (v18a_0_t3 ra rb rc ps false 0 0 > 2000))))) (.nn)
end Go.Proofs.Ytfbfohkgajeopac
set_option maxRecDepth 100000
set_option linter.unusedVariables false
namespace Go.Proofs.Ytfbfohkgajeopac
open Go Go.Ev

noncomputable def t48  : Tr ((Int) × (Int) × (Int) × (List (List AV))) :=
  .lf (5, 0, 0, [[AV.s { data := #[111, 110, 101] }, AV.i IntKind.i64 1, AV.i IntKind.i64 0, AV.i IntKind.i64 0, AV.i IntKind.i64 0], [AV.s { data := #[116, 119, 111] }, AV.i IntKind.i64 2, AV.i IntKind.i64 0, AV.i IntKind.i64 0, AV.i IntKind.i64 1], [AV.s { data := #[117, 112] }, AV.i IntKind.i64 1, AV.i IntKind.i64 0, AV.i IntKind.i64 1, AV.i IntKind.i64 3], [AV.s { data := #[100, 111, 119, 110] }, AV.i IntKind.i64 1, AV.i IntKind.i64 1, AV.i IntKind.i64 0, AV.i IntKind.i64 2]])
-- SPEC 48
end Go.Proofs.Ytfbfohkgajeopac

set_option maxRecDepth 100000
set_option linter.unusedVariables false
namespace Go.Proofs.Ytfbfohkgajeopac
open Go Go.Ev

noncomputable def t49  : Tr ((Int) × (Int) × (List (List AV))) :=
  .lf (10, 1, [[AV.i IntKind.i64 5, AV.i IntKind.i64 2], [AV.i IntKind.i64 3, AV.i IntKind.i64 2], [AV.i IntKind.i64 2, AV.i IntKind.i64 1]])
-- SPEC 49
end Go.Proofs.Ytfbfohkgajeopac

set_option maxRecDepth 100000
set_option linter.unusedVariables false
namespace Go.Proofs.Ytfbfohkgajeopac
open Go Go.Ev
noncomputable def t31 (ra rb rc : Int) (ps : List (List AV)) : Tr ((Int) × (Int) × (Int) × (List (List AV))) :=
  .lf (ra, rc, rb, ps)
noncomputable def g31 (ra rb rc : Int) (ps : List (List AV)) : Bool := (t31 ra rb rc ps).g
end Go.Proofs.Ytfbfohkgajeopac
set_option maxRecDepth 100000
set_option linter.unusedVariables false
namespace Go.Proofs.Ytfbfohkgajeopac
open Go Go.Ev

-- SPEC 75
end Go.Proofs.Ytfbfohkgajeopac

set_option maxRecDepth 100000
set_option linter.unusedVariables false
namespace Go.Proofs.Ytfbfohkgajeopac
open Go Go.Ev

structure S77a where
  t9 : Int
  m2 : List AV
inductive T77a where
  | x0 (t9 : Int) (m2 : List AV)
-- SPEC 77
end Go.Proofs.Ytfbfohkgajeopac

set_option maxRecDepth 100000
set_option linter.unusedVariables false
namespace Go.Proofs.Ytfbfohkgajeopac
open Go Go.Ev

-- SPEC 60
end Go.Proofs.Ytfbfohkgajeopac

set_option maxRecDepth 100000
set_option linter.unusedVariables false
namespace Go.Proofs.Ytfbfohkgajeopac
open Go Go.Ev
end Go.Proofs.Ytfbfohkgajeopac

set_option maxRecDepth 100000
set_option linter.unusedVariables false
set_option linter.unusedSimpArgs false
namespace Go.Proofs.Ytfbfohkgajeopac
open Go Go.Ev
noncomputable def bd89 : Code := match Try.f59.body with | some c => c | _ => .skip
noncomputable def at89 (p : List Bool) : Code := match locate bd89 p with | some c => c | _ => .skip
noncomputable def q0 : Code := at89 [false]
noncomputable def q1 : Code := at89 [true, false, false]
noncomputable def q2 : Code := at89 [true, false, true, false, false]
noncomputable def q3 : Code := at89 [true, true, false]
noncomputable def q4 : Code := at89 [true, true, true, false, false]
noncomputable def qB : Code := match at89 [true, true, true, false, true, false] with | .loop c => c | _ => .skip
noncomputable def atB (p : List Bool) : Code := match locate qB p with | some c => c | _ => .skip
noncomputable def q5 : Code := atB [false, false]
noncomputable def q7 : Code := atB [true, false, false, false, false]
noncomputable def q8 : Code := atB [true, false, false, false, true, false, false]
noncomputable def q9 : Code := atB [true, false, false, true]
noncomputable def q6 : Code := atB [true, true]
noncomputable def q10 : Code := at89 [true, true, true, true, false]
noncomputable def q11 : Code := at89 [true, true, true, true, true, false]
theorem bd89_eq : bd89 = .seq q0 (.seq (.seq q1 (.cond (.tmp 15) (.seq q2 .ret) .skip)) (.seq q3 (.seq (.seq q4 (.block 0 (.loop qB))) (.seq q10 (.seq q11 .ret))))) := by kernel_rfl
theorem qB_eq : qB = .seq (.seq q5 (.cond (.tmp 40) .skip (.exit 0))) (.seq (.block 1 (.seq (.seq q7 (.cond (.tmp 51) (.seq q8 .ret) .skip)) q9)) q6) := by kernel_rfl
noncomputable def ops2 : Array Oper := match q2 with | .region _ o _ => o | _ => #[]
noncomputable def ops7 : Array Oper := match q7 with | .region _ o _ => o | _ => #[]
def rpR (da db : Int) (cs : List (List AV)) : AV := .rp [.int .i64, .int .i64, .sl 82] [.i .i64 da, .i .i64 db, .rs 82 cs] 0
def rpY (l : Nat) : AV := .rp [.oth] [.yl l] 0
def rpM (q0 q1 q2 q3 q4 q5 q6 q7 : Int) : AV := .rp [.int .i64, .int .i64, .int .i64, .int .i64, .int .i64, .int .i64, .int .i64, .int .i64] [.i .i64 q0, .i .i64 q1, .i .i64 q2, .i .i64 q3, .i .i64 q4, .i .i64 q5, .i .i64 q6, .i .i64 q7] 0
noncomputable def piece (c : Code) (ts : List Nat) (st : St) : Option (Ex × List AV × Blk) := evC Try.prog S0 (ro 59) (fun _ _ => none) c [] st fun e s => some (e, ts.map (gt s.t), gm s.m 0)
noncomputable def pieceB (ops : Array Oper) (k : Nat) (ts : List Nat) (st : St) : Option (List AV × Blk) := evOpsB Try.prog S0 (ro 59) ops st.nx (ops.toList.take k) 0 st fun s => some (ts.map (gt s.t), gm s.m 0)
noncomputable def stH (vs X : List AV) : St := { t := [0, 1, 2, 3, 4, 5, 6, 10].zip vs, m := [(0, .row 98 [X])], nx := 1, nt := 57 }
noncomputable def st0 (j room : Int) (v2 v3 v5 v6 : AV) (X : List AV) : St := initSt 57 [.i .i64 j, .i .i64 room, v2, v3, .p 0 0 0, v5, v6] [.row 98 [X]]
end Go.Proofs.Ytfbfohkgajeopac

set_option maxRecDepth 100000
set_option linter.unusedVariables false
set_option linter.unusedSimpArgs false
namespace Go.Ev
open Go
variable {P : Program} {S : Spec} {RO : Nat → Bool} {L : LSpec} {X : Nat → Nat → Prop} {R : Nat → Option (Nat × Nat × Nat)} {st : St} {a : Act} {w : World} {n : Nat} {Q : Exit → Act → World → Prop}
theorem gt_zip {D : Nat → Nat → Prop} {f : Nat → Value} : ∀ (ts : List Nat) (vs : List AV), (∀ k, k < ts.length → VR P D R w (vs.getD k .u) (f (ts.getD k 0))) → ∀ t, VR P D R w (gt (ts.zip vs) t) (f t)
  | [], vs, _, t => .u
  | a :: ts, [], _, t => .u
  | a :: ts, v :: vs, h, t => by
    simp only [List.zip_cons_cons, gt_cons]
    by_cases e : t = a
    · subst e
      simpa using h 0 (by simp)
    · simp only [e, if_false]
      exact gt_zip ts vs (fun k hk => by simpa using h (k + 1) (by simpa using hk)) t
theorem piece_sound (hs : SpecOK P S) (hm : P.follows .mixedOrders = true) {b0 : Nat} {s0 : Nat × Nat} (hR00 : R 0 = some (b0, s0)) (h : SR P ⟨w, rowsOf R, fun id => id < 1, w.heap.size, Nat.le_refl _⟩ (XR X R) (XR X R) R st a w)
    (hf : Fresh R st.nx) (hnx : 1 ≤ st.nx) {c : Code} (hL : LOK P S RO L 1 true c []) {ts : List Nat} {e0 : Ex} {vs : List AV} {e : TypeId} {es : List (List AV)} (hes : es ≠ [])
    (he : (evC P S RO L c [] st fun e s => some (e, ts.map (gt s.t), gm s.m 0)) = some (e0, vs, .row e es)) (hfr : freeL P 1 vs = true) (hfb : freeB P 1 (.row e es) = true)
    (hn : ∀ a' w', LeftP P X R st a w ts vs (.row e es) a' w' → Q e0.exit a' w') : c.wpIn (FW none) n P Q a w := by
  refine evC_sound hs hm c [] 1 true none n hL (fun h => by cases h) h hf hnx (fun i j hi hk => absurd hk (Nat.not_lt.2 hi)) he fun D' R' e' st' a' w' hS hf' hRR hd _ ht hK => ?_
  simp only [Option.some.injEq, Prod.mk.injEq] at hK
  obtain ⟨rfl, rfl, hrow⟩ := hK
  exact hn a' w' (left_of hR00 hes hS hRR (hd rfl) ht hfr hrow hfb)
theorem pieceB_sound (hs : SpecOK P S) {b0 : Nat} {s0 : Nat × Nat} (hR00 : R 0 = some (b0, s0)) (h : SR P ⟨w, rowsOf R, fun id => id < 1, w.heap.size, Nat.le_refl _⟩ (XR X R) (XR X R) R st a w)
    (hf : Fresh R st.nx) (hnx : 1 ≤ st.nx) {ops : Array Oper} {k : Nat} {rest : List Nat} (hk : k ≤ ops.size) {ts : List Nat} {vs : List AV} {e : TypeId} {es : List (List AV)} (hes : es ≠ [])
    (he : (evOpsB P S RO ops st.nx (ops.toList.take k) 0 st fun s => some (ts.map (gt s.t), gm s.m 0)) = some (vs, .row e es)) (hfr : freeL P 1 vs = true) (hfb : freeB P 1 (.row e es) = true)
    (hn : ∀ a' w', LeftP P X R st a w ts vs (.row e es) a' w' → wpOpsIn (FW none) n P ops Q rest a' w') : wpOpsIn (FW none) n P ops Q (List.range' 0 k ++ rest) a w := by
  have hl : (ops.toList.take k).length = k := by simp; omega
  rw [← hl]
  refine evOpsB_cut hs (ops.toList.take k) 0 (fun i hi => ?_) h (by simpa using hf) he fun D' R' st' a' w' hS hf' hRR hd hx ht hK => ?_
  · rw [hl] at hi
    simp [List.getElem?_take, hi]
  · simp only [Option.some.injEq, Prod.mk.injEq] at hK
    obtain ⟨rfl, hrow⟩ := hK
    exact hn a' w' (left_of hR00 hes hS (fun id hid => .inl (hRR id (by omega))) hd ht hfr hrow hfb)
def GoodW (X : Nat → Nat → Prop) (R : Nat → Option (Nat × Nat × Nat)) (W W' : World) : Prop := W.heap.size ≤ W'.heap.size ∧ ∀ b o u, ¬ XR X R b o → W.cell? ⟨b, o, none⟩ = some u → W'.cell? ⟨b, o, none⟩ = some u
theorem GoodW.refl {W : World} : GoodW X R W W := ⟨Nat.le_refl _, fun _ _ _ _ h => h⟩
theorem GoodW.trans {W W' W'' : World} (h : GoodW X R W W') (h' : GoodW X R W' W'') : GoodW X R W W'' := ⟨Nat.le_trans h.1 h'.1, fun b o u hd hc => h'.2 b o u hd (h.2 b o u hd hc)⟩
theorem GoodW.VR {W W' : World} (h : GoodW X R W W') {x : AV} {v : Value} (hv : VR P (XR X R) R W x v) : VR P (XR X R) R W' x v := hv.mono' (fun _ _ e => e) fun b o u hd hc => ⟨hd, h.2 b o u hd hc⟩
theorem good_below {W W' : World} (h : BelowY ⟨W, rowsOf R, fun id => id < 1, W.heap.size, Nat.le_refl _⟩ W') : GoodW X R W W' := by
  refine ⟨h.size, fun b o u hd hc => ?_⟩
  have hb : b < W.heap.size := by
    obtain ⟨ob, h5, _⟩ := cells_of_cell hc
    exact (Array.getElem?_eq_some_iff.1 h5).1
  exact (World.cell?_of_block (h.block b hb fun hr => hd (.inr hr))).trans hc
theorem good_kp {Y : Nat → Prop} {W W' : World} (h : KpOf Y W W') (hY : ∀ b o, Y b → X b o) : GoodW X R W W' := by
  refine ⟨h.size, fun b o u hd hc => ?_⟩
  obtain ⟨ob, h5, h6⟩ := cells_of_cell hc
  exact (World.cell?_of_block ((h.same b ob h5 h6 fun hy => hd (.inl (hY b o hy))).trans h5.symm)).trans hc
theorem row_kp {Y : Nat → Prop} {W W' : World} (h : KpOf Y W W') (hY : ∀ b o, Y b → X b o) (hX : ∀ b s o, R 0 = some (b, s) → ¬ X b o) {e : TypeId} {es : List (List AV)} (hr : RowOK P (XR X R) R W 0 (.row e es)) : RowOK P (XR X R) R W' 0 (.row e es) := by
  intro hne
  obtain ⟨b, cells, ty, g1, g2, g3, g4, g5, g6, g7⟩ := hr hne
  refine ⟨b, cells, ty, g1, (h.same b _ g2 rfl fun hy => hX b _ 0 g1 (hY b 0 hy)), g3, g4, g5, g6, fun i j hi hj => ?_⟩
  obtain ⟨v, k1, k2⟩ := g7 i j hi hj
  exact ⟨v, k1, (good_kp h hY).VR k2⟩
end Go.Ev

set_option maxRecDepth 100000
set_option linter.unusedVariables false
set_option linter.unusedSimpArgs false
namespace Go.Proofs.Ytfbfohkgajeopac
open Go Go.Ev
abbrev ts8 : List Nat := [0, 1, 2, 3, 4, 5, 6, 10]
abbrev rw0 (X : List AV) : Blk := .row 98 [X]
noncomputable def o2a : Oper := (ops2[2]?).getD default
noncomputable def o2b : Oper := (ops2[3]?).getD default
noncomputable def o7a : Oper := (ops7[4]?).getD default
noncomputable def o7b : Oper := (ops7[5]?).getD default
theorem o2a_at : ops2[2]? = some o2a := by kernel_rfl
theorem o2a_op : o2a.op = .call { callee := .value (.tmp 16), args := #[.tmp 17], argTypes := #[98] } := by kernel_rfl
theorem o2a_g : o2a.guard = none := by kernel_rfl
theorem o2a_d : o2a.dst = some 18 := by kernel_rfl
theorem o2b_at : ops2[3]? = some o2b := by kernel_rfl
theorem o2b_op : o2b.op = .assign (.tmp 18) := by kernel_rfl
theorem o2b_g : o2b.guard = none := by kernel_rfl
theorem o2b_d : o2b.dst = some 9 := by kernel_rfl
theorem o7a_at : ops7[4]? = some o7a := by kernel_rfl
theorem o7a_op : o7a.op = .call { callee := .value (.tmp 46), args := #[.tmp 48, .tmp 49], argTypes := #[3, 3] } := by kernel_rfl
theorem o7a_g : o7a.guard = none := by kernel_rfl
theorem o7a_d : o7a.dst = some 50 := by kernel_rfl
theorem o7b_at : ops7[5]? = some o7b := by kernel_rfl
theorem o7b_op : o7b.op = .unOp .not 4 (.tmp 50) := by kernel_rfl
theorem o7b_g : o7b.guard = none := by kernel_rfl
theorem o7b_d : o7b.dst = some 51 := by kernel_rfl
theorem q2_eq : q2 = .region 2 ops2 false := by kernel_rfl
theorem q7_eq : q7 = .region 7 ops7 false := by kernel_rfl
theorem sz2 : ops2.size = 4 := by kernel_rfl
theorem sz7 : ops7.size = 6 := by kernel_rfl
theorem body89 : Try.f59.body = some bd89 := by kernel_rfl
theorem res89 : Try.f59.results = #[.tmp 9] := by kernel_rfl
theorem lokP (c : Code) (h : (match c with | .region _ _ _ => true | .seq (.region _ _ _) (.region _ _ _) => true | _ => false) = true) : LOK Try.prog S0 (ro 59) (fun _ _ => none) 1 true c [] := by
  split at h
  · trivial
  · exact ⟨trivial, trivial⟩
  · cases h
variable (da db : Int) (cs : List (List AV)) (m0 m1 m2 m3 m4 m5 m6 m7 : Int) (j room w : Int) (l : Nat) (v6 v10 : AV) (X : List AV)
noncomputable def vH (j room : Int) (v6 v10 : AV) : List AV := [.i .i64 j, .i .i64 room, rpR da db cs, rpY l, .p 0 0 0, rpM m0 m1 m2 m3 m4 m5 m6 m7, v6, v10]
noncomputable def fn89 (v6 : AV) : AV := .fn 59 [rpR da db cs, rpY l, .p 0 0 0, rpM m0 m1 m2 m3 m4 m5 m6 m7, v6]
noncomputable def gj (j : Int) : Bool := ctsAt (cts Try.prog 98) (0 + j.toNat * 1) (cts Try.prog 3)
theorem pe0 : piece q0 ts8 (st0 j room (rpR da db cs) (rpY l) (rpM m0 m1 m2 m3 m4 m5 m6 m7) v6 X) = some (.nrm, vH da db cs m0 m1 m2 m3 m4 m5 m6 m7 l j room v6 .u, rw0 X) := by kernel_rfl
theorem pe1 : piece q1 [0, 1, 2, 3, 4, 5, 6, 10, 15] (stH (vH da db cs m0 m1 m2 m3 m4 m5 m6 m7 l j room v6 .u) X) = some (.nrm, vH da db cs m0 m1 m2 m3 m4 m5 m6 m7 l j room v6 .u ++ [.b (j == (cs.length : Int))], rw0 X) := by kernel_rfl
theorem pe2 : pieceB ops2 2 [16, 17] (stH (vH da db cs m0 m1 m2 m3 m4 m5 m6 m7 l j room v6 .u) X) = some ([.yl l, .agg [.i .i64 (fI X 0), .i .i64 (fI X 1), .i .i64 (fI X 2), .i .i64 (fI X 3), .i .i64 (fI X 4), .i .i64 (fI X 5), .i .i64 (fI X 6), .i .i64 (fI X 7)]], rw0 X) := by kernel_rfl
theorem pe3 : piece q3 ts8 (stH (vH da db cs m0 m1 m2 m3 m4 m5 m6 m7 l j room v6 .u) X) = cond (inb j cs.length) (some (.nrm, vH da db cs m0 m1 m2 m3 m4 m5 m6 m7 l j room v6 (.i .i64 (IntKind.i64.wrap (fI (cs.getD j.toNat []) 0 + db))), rw0 X)) none := by kernel_rfl
theorem pe4 : piece q4 ts8 (stH (vH da db cs m0 m1 m2 m3 m4 m5 m6 m7 l j room v6 (.i .i64 w)) X) = cond (inb j 8) (cond (gj j && Nat.blt 0 1) (some (.nrm, vH da db cs m0 m1 m2 m3 m4 m5 m6 m7 l j room v6 (.i .i64 w), rw0 (setCs X (0 + j.toNat * 1) [.i .i64 0]))) none) none := by kernel_rfl
theorem pe5 : piece q5 [0, 1, 2, 3, 4, 5, 6, 10, 40] (stH (vH da db cs m0 m1 m2 m3 m4 m5 m6 m7 l j room v6 (.i .i64 w)) X) = cond (inb j 8) (cond (gj j && Nat.blt 0 1) (cond (inb j 8) (cond (ctsAt [CT.int IntKind.i64, CT.int IntKind.i64, CT.int IntKind.i64, CT.int IntKind.i64, CT.int IntKind.i64, CT.int IntKind.i64, CT.int IntKind.i64, CT.int IntKind.i64] (0 + j.toNat * 1) (cts Try.prog 3))
    (cond (decide (fI X (0 + j.toNat * 1) ≤ fI [AV.i IntKind.i64 m0, AV.i IntKind.i64 m1, AV.i IntKind.i64 m2, AV.i IntKind.i64 m3, AV.i IntKind.i64 m4, AV.i IntKind.i64 m5, AV.i IntKind.i64 m6, AV.i IntKind.i64 m7] (0 + j.toNat * 1)))
      (some (.nrm, vH da db cs m0 m1 m2 m3 m4 m5 m6 m7 l j room v6 (.i .i64 w) ++ [.b (decide (room ≥ 0))], rw0 X)) (some (.nrm, vH da db cs m0 m1 m2 m3 m4 m5 m6 m7 l j room v6 (.i .i64 w) ++ [.b false], rw0 X))) none) none) none) none := by kernel_rfl
theorem pe7 : pieceB ops7 4 [0, 1, 2, 3, 4, 5, 6, 10, 46, 48, 49] (stH (vH da db cs m0 m1 m2 m3 m4 m5 m6 m7 l j room (.rp [.oth] [fn89 da db cs m0 m1 m2 m3 m4 m5 m6 m7 l v6] 0) (.i .i64 w)) X) =
    some (vH da db cs m0 m1 m2 m3 m4 m5 m6 m7 l j room (.rp [.oth] [fn89 da db cs m0 m1 m2 m3 m4 m5 m6 m7 l v6] 0) (.i .i64 w) ++ [fn89 da db cs m0 m1 m2 m3 m4 m5 m6 m7 l v6, .i .i64 (IntKind.i64.wrap (j + 1)), .i .i64 room], rw0 X) := by kernel_rfl
theorem pe9 : piece q9 ts8 (stH (vH da db cs m0 m1 m2 m3 m4 m5 m6 m7 l j room v6 (.i .i64 w)) X) = some (.nrm, vH da db cs m0 m1 m2 m3 m4 m5 m6 m7 l j (IntKind.i64.wrap (room - w)) v6 (.i .i64 w), rw0 X) := by kernel_rfl
theorem pe6 : piece q6 ts8 (stH (vH da db cs m0 m1 m2 m3 m4 m5 m6 m7 l j room v6 (.i .i64 w)) X) = cond (inb j 8) (cond (gj j && Nat.blt 0 1) (cond (inb j 8) (cond (gj j && Nat.blt 0 1) (some (.nrm, vH da db cs m0 m1 m2 m3 m4 m5 m6 m7 l j room v6 (.i .i64 w), rw0 (setCs X (0 + j.toNat * 1) [.i .i64 (IntKind.i64.wrap (fI X (0 + j.toNat * 1) + 1))]))) none) none) none) none := by kernel_rfl
theorem peA : piece q10 ts8 (stH (vH da db cs m0 m1 m2 m3 m4 m5 m6 m7 l j room v6 (.i .i64 w)) X) = cond (inb j 8) (cond (gj j && Nat.blt 0 1) (some (.nrm, vH da db cs m0 m1 m2 m3 m4 m5 m6 m7 l j room v6 (.i .i64 w), rw0 (setCs X (0 + j.toNat * 1) [.i .i64 0]))) none) none := by kernel_rfl
theorem peB : piece q11 [9] (stH (vH da db cs m0 m1 m2 m3 m4 m5 m6 m7 l j room v6 (.i .i64 w)) X) = some (.nrm, [.b true], rw0 X) := by kernel_rfl

theorem fr8 (h : free Try.prog 1 v6 = true) (h' : free Try.prog 1 v10 = true) : freeL Try.prog 1 (vH da db cs m0 m1 m2 m3 m4 m5 m6 m7 l j room v6 v10) = true := by
  have : freeL Try.prog 1 (vH da db cs m0 m1 m2 m3 m4 m5 m6 m7 l j room v6 v10) = (free Try.prog 1 v6 && (free Try.prog 1 v10 && true)) := by kernel_rfl
  rw [this, h, h']; rfl
theorem frB (X : List AV) : freeB Try.prog 1 (rw0 X) = true := by kernel_rfl
theorem gj_at {k : Nat} (h : k < 8) : inb ((k : Nat) : Int) 8 = true ∧ gj k = true ∧ ctsAt [CT.int IntKind.i64, CT.int IntKind.i64, CT.int IntKind.i64, CT.int IntKind.i64, CT.int IntKind.i64, CT.int IntKind.i64, CT.int IntKind.i64, CT.int IntKind.i64] (0 + (k : Int).toNat * 1) (cts Try.prog 3) = true := by
  rcases k with _ | _ | _ | _ | _ | _ | _ | _ | k
  all_goals first | (exfalso; omega) | (exact ⟨by kernel_rfl, by kernel_rfl, by kernel_rfl⟩)
end Go.Proofs.Ytfbfohkgajeopac

set_option maxRecDepth 100000
set_option linter.unusedVariables false
set_option linter.unusedSimpArgs false
namespace Go.Proofs.Ytfbfohkgajeopac
open Go Go.Ev Go.RowKit
def ag8 (X : List AV) : AV := .agg [.i .i64 (fI X 0), .i .i64 (fI X 1), .i .i64 (fI X 2), .i .i64 (fI X 3), .i .i64 (fI X 4), .i .i64 (fI X 5), .i .i64 (fI X 6), .i .i64 (fI X 7)]
def enc8 (X : List AV) : List AV := [ag8 X]
def wid (db : Int) (cs : List (List AV)) (j : Nat) : Int := IntKind.i64.wrap (fI (cs.getD j []) 0 + db)
inductive PT (db : Int) (cs : List (List AV)) (ms : List AV) : Bool → Nat → Int → List AV → List (List AV) → List AV → Prop
  | leaf {room : Int} {X : List AV} : PT db cs ms false cs.length room X [enc8 X] X
  | node {j : Nat} {room : Int} {X X' : List AV} {l : List (List AV)} : j < cs.length → j < 8 → PT db cs ms true j room (setCs X j [.i .i64 0]) l X' → PT db cs ms false j room X l (setCs X' j [.i .i64 0])
  | stop {j : Nat} {room : Int} {X : List AV} : (decide (fI X j ≤ fI ms j) && decide (room ≥ 0)) = false → PT db cs ms true j room X [] X
  | step {j : Nat} {room : Int} {X X1 X2 : List AV} {l1 l2 : List (List AV)} : fI X j ≤ fI ms j → 0 ≤ room → PT db cs ms false (j + 1) room X l1 X1 →
      PT db cs ms true j (IntKind.i64.wrap (room - wid db cs j)) (setCs X1 j [.i .i64 (IntKind.i64.wrap (fI X1 j + 1))]) l2 X2 → PT db cs ms true j room X (l1 ++ l2) X2

structure Env (l : Nat) (X : Nat → Nat → Prop) (Y : Nat → Prop) (R : Nat → Option (Nat × Nat × Nat)) (pb : Nat) (xs : List (List AV)) (J : (Nat → Prop) → Nat → World → Prop) (Jx : (Nat → Prop) → World → Prop) : Prop where
  R0 : R 0 = some (pb, 8, 0)
  R1 : ∀ id, 1 ≤ id → R id = none
  YX : ∀ b o, Y b → X b o
  pX : ∀ o, ¬ X pb o
  hJ : ∀ Z i W W', J Z i W → BelowZ Z W W' → J (fun b => Z b ∨ (W.heap.size ≤ b ∧ b < W'.heap.size)) i W'
  yield : ∀ Z i x W m, J Z i W → xs[i]? = some x → YieldAt (FW none) m Try.prog l (encV x) W fun e W' => (e = .returned (.bool true) ∧ J Z (i + 1) W' ∧ KpOf Y W W') ∨ (e = .returned (.bool false) ∧ Jx Z W' ∧ KpOf Y W W')
structure At (l : Nat) (X : Nat → Nat → Prop) (R : Nat → Option (Nat × Nat × Nat)) (pb : Nat) (p : List AV) (W : World) : Prop where
  xl : ∀ b o, X b o → b < W.heap.size
  pl : pb < W.heap.size
  row : RowOK Try.prog (XR X R) R W 0 (rw0 p)

variable {da db : Int} {cs : List (List AV)} {m0 m1 m2 m3 m4 m5 m6 m7 : Int} {l : Nat} {X : Nat → Nat → Prop} {Y : Nat → Prop} {R : Nat → Option (Nat × Nat × Nat)} {pb : Nat} {xs : List (List AV)} {J : (Nat → Prop) → Nat → World → Prop} {Jx : (Nat → Prop) → World → Prop}
noncomputable def RP (da db : Int) (cs : List (List AV)) (m0 m1 m2 m3 m4 m5 m6 m7 : Int) (l : Nat) : Nat → AV
  | 0 => .u
  | d + 1 => .rp [.oth] [fn89 da db cs m0 m1 m2 m3 m4 m5 m6 m7 l (RP da db cs m0 m1 m2 m3 m4 m5 m6 m7 l d)] 0
theorem RP_free : ∀ d, free Try.prog 1 (RP da db cs m0 m1 m2 m3 m4 m5 m6 m7 l d) = true
  | 0 => rfl
  | d + 1 => by
    have : free Try.prog 1 (RP da db cs m0 m1 m2 m3 m4 m5 m6 m7 l (d + 1)) = (free Try.prog 1 (RP da db cs m0 m1 m2 m3 m4 m5 m6 m7 l d) && true && true) := by kernel_rfl
    rw [this, RP_free d]; rfl
structure Hd (da db : Int) (cs : List (List AV)) (m0 m1 m2 m3 m4 m5 m6 m7 : Int) (l : Nat) (X : Nat → Nat → Prop) (R : Nat → Option (Nat × Nat × Nat)) (pb : Nat) (j room : Int) (v6 v10 : AV) (p : List AV) (a : Act) (W : World) : Prop where
  at_ : At l X R pb p W
  tmp : ∀ k, k < 8 → VR Try.prog (XR X R) R W ((vH da db cs m0 m1 m2 m3 m4 m5 m6 m7 l j room v6 v10).getD k .u) (a.tmps.getD (ts8.getD k 0) undef)
  nt : a.tmps.size = 57
  df : a.defers = []
theorem Hd.sr {j room : Int} {v6 v10 : AV} {p : List AV} {a : Act} {W : World} (E : Env l X Y R pb xs J Jx) (h : Hd da db cs m0 m1 m2 m3 m4 m5 m6 m7 l X R pb j room v6 v10 p a W) :
    SR Try.prog ⟨W, rowsOf R, fun id => id < 1, W.heap.size, Nat.le_refl _⟩ (XR X R) (XR X R) R (stH (vH da db cs m0 m1 m2 m3 m4 m5 m6 m7 l j room v6 v10) p) a W := by
  refine mkSR E.R1 (fun id b s e => ?_) h.at_.xl (fun t => ?_) h.nt rfl (fun id hid => ?_) h.at_.row h.df
  · rcases Nat.eq_zero_or_pos id with e0 | e0
    · rw [e0, E.R0] at e; cases e; exact ⟨h.at_.pl, by simp⟩
    · rw [E.R1 id e0] at e; cases e
  · exact gt_zip (f := fun t => a.tmps.getD t undef) ts8 _ (fun k hk => h.tmp k hk) t
  · cases id with
    | zero => omega
    | succ id => rfl
theorem Hd.fresh (E : Env l X Y R pb xs J Jx) : Fresh R 1 := fun id hid => E.R1 id hid
theorem At.left {p p' : List AV} {W W' : World} {st : St} {a a' : Act} {ts : List Nat} {vs : List AV} (h : At l X R pb p W) (k : LeftP Try.prog X R st a W ts vs (rw0 p') a' W') : At l X R pb p' W' :=
  ⟨fun b o hx => Nat.lt_of_lt_of_le (h.xl b o hx) k.below.size, Nat.lt_of_lt_of_le h.pl k.below.size, k.row⟩
theorem Hd.left {j room : Int} {v6 v10 : AV} {p p' : List AV} {W W' : World} {st : St} {a a' : Act} {ts : List Nat} {vs : List AV} (h : At l X R pb p W) (hts : ts.take 8 = ts8) (hvs : vs.take 8 = vH da db cs m0 m1 m2 m3 m4 m5 m6 m7 l j room v6 v10) (hnt : st.nt = 57) (hd : a.defers = [])
    (k : LeftP Try.prog X R st a W ts vs (rw0 p') a' W') : Hd da db cs m0 m1 m2 m3 m4 m5 m6 m7 l X R pb j room v6 v10 p' a' W' := by
  have hl : 8 ≤ ts.length := by have := congrArg List.length hts; simp at this; omega
  refine ⟨h.left k, fun i hi => ?_, k.nt.trans hnt, k.df.trans hd⟩
  have := k.tmp i (by omega)
  have e1 : vs.getD i .u = (vs.take 8).getD i .u := by simp [List.getD_eq_getElem?_getD, List.getElem?_take, hi]
  have e2 : ts.getD i 0 = (ts.take 8).getD i 0 := by simp [List.getD_eq_getElem?_getD, List.getElem?_take, hi]
  rw [e1, e2, hvs, hts] at this
  exact this
theorem belowZ {Z : Nat → Prop} (E : Env l X Y R pb xs J Jx) (hZ : Z pb) {W W' : World} (h : BelowY ⟨W, rowsOf R, fun id => id < 1, W.heap.size, Nat.le_refl _⟩ W') : BelowZ Z W W' :=
  ⟨h.os, h.tape, h.output, h.size, fun k hk hz => h.block k hk fun ⟨id, s, e⟩ => hz (by
    rcases Nat.eq_zero_or_pos id with e0 | e0
    · rw [e0, E.R0] at e; cases e; exact hZ
    · rw [E.R1 id e0] at e; cases e)⟩
def Done (l : Nat) (X : Nat → Nat → Prop) (R : Nat → Option (Nat × Nat × Nat)) (pb : Nat) (J : (Nat → Prop) → Nat → World → Prop) (Jx : (Nat → Prop) → World → Prop) (W : World) (n : Nat) (p' : List AV) (e : Ending) (W' : World) : Prop :=
  (e = .returned (.bool true) ∧ ∃ Z', Z' pb ∧ J Z' n W' ∧ At l X R pb p' W' ∧ GoodW X R W W') ∨ (e = .returned (.bool false) ∧ ∃ Z', Jx Z' W')
end Go.Proofs.Ytfbfohkgajeopac

set_option maxRecDepth 100000
set_option linter.unusedVariables false
set_option linter.unusedSimpArgs false
namespace Go.Proofs.Ytfbfohkgajeopac
open Go Go.Ev Go.RowKit
variable {da db : Int} {cs : List (List AV)} {m0 m1 m2 m3 m4 m5 m6 m7 : Int} {l : Nat} {X : Nat → Nat → Prop} {Y : Nat → Prop} {R : Nat → Option (Nat × Nat × Nat)} {pb : Nat} {xs : List (List AV)} {J : (Nat → Prop) → Nat → World → Prop} {Jx : (Nat → Prop) → World → Prop}

theorem freeL_app {nb : Nat} : ∀ {x y : List AV}, freeL Try.prog nb x = true → freeL Try.prog nb y = true → freeL Try.prog nb (x ++ y) = true
  | [], y, _, h => h
  | a :: x, y, h, h' => by
    simp only [freeL, Bool.and_eq_true, List.cons_append] at h ⊢
    exact ⟨h.1, freeL_app h.2 h'⟩
theorem stp {Z : Nat → Prop} {i : Nat} {st : St} {a a' : Act} {W W' : World} {ts : List Nat} {vs : List AV} {blk : Blk} (E : Env l X Y R pb xs J Jx) (hZ : Z pb) (hJ : J Z i W) (k : LeftP Try.prog X R st a W ts vs blk a' W') :
    ∃ Z', Z' pb ∧ J Z' i W' ∧ GoodW X R W W' := ⟨_, .inl hZ, E.hJ _ _ _ _ hJ (belowZ E hZ k.below), good_below k.below⟩
theorem put_get {a : Act} {d t : Nat} {v : Value} (h : d < a.tmps.size) : (a.put (some d) v).tmps.getD t undef = if t = d then v else a.tmps.getD t undef := by
  show (a.tmps.setIfInBounds d v).getD t undef = _
  by_cases e : t = d
  · subst e; simp [Array.getD_eq_getD_getElem?, h]
  · simp [Array.getD_eq_getD_getElem?, Array.getElem?_setIfInBounds, e, Ne.symm e]
theorem put_size {a : Act} {d : Nat} {v : Value} : (a.put (some d) v).tmps.size = a.tmps.size := by
  show (a.tmps.setIfInBounds d v).size = _
  simp
theorem fin89 {A : Ending → World → Prop} {a : Act} {W : World} {b : Bool} (hd : a.defers = []) (ht : a.tmps.getD 9 undef = .bool b) (hA : A (.returned (.bool b)) W) : bodyPost Try.prog Try.f59 A .ret a W := by
  refine ⟨hd, .bool b, ?_, hA⟩
  simp only [results, res89]
  simpa [Array.getD_eq_getD_getElem?] using ht
theorem pre89 (E : Env l X Y R pb xs J Jx) {j room : Int} {v6 : AV} {p : List AV} {W : World} {Z : Nat → Prop} {i : Nat} {av : Array Value} (hv6 : free Try.prog 1 v6 = true) (h : At l X R pb p W) (hs : av.size = 7)
    (hv : ∀ k, k < 7 → VR Try.prog (XR X R) R W (([.i .i64 j, .i .i64 room, rpR da db cs, rpY l, .p 0 0 0, rpM m0 m1 m2 m3 m4 m5 m6 m7, v6] : List AV).getD k .u) (av.getD k undef)) (hZ : Z pb) (hJ : J Z i W) {Q : Exit → Act → World → Prop}
    (hc : ∀ a' W' Z', Hd da db cs m0 m1 m2 m3 m4 m5 m6 m7 l X R pb j room v6 .u p a' W' → a'.eval (.tmp 15) = .bool (j == (cs.length : Int)) → Z' pb → J Z' i W' → GoodW X R W W' →
      (Code.cond (.tmp 15) (.seq q2 .ret) .skip).wpIn (FW none) 0 Try.prog (Exit.then (fun a w => (Code.seq q3 (.seq (.seq q4 (.block 0 (.loop qB))) (.seq q10 (.seq q11 .ret)))).wpIn (FW none) 0 Try.prog Q a w) Q) a' W') :
    bd89.wpIn (FW none) 0 Try.prog Q { tmps := av ++ Array.replicate (57 - av.size) undef, defers := [] } W := by
  rw [bd89_eq]
  have h0 : SR Try.prog ⟨W, rowsOf R, fun id => id < 1, W.heap.size, Nat.le_refl _⟩ (XR X R) (XR X R) R (st0 j room (rpR da db cs) (rpY l) (rpM m0 m1 m2 m3 m4 m5 m6 m7) v6 p) { tmps := av ++ Array.replicate (57 - av.size) undef, defers := [] } W :=
    init_SR (args := [.i .i64 j, .i .i64 room, rpR da db cs, rpY l, .p 0 0 0, rpM m0 m1 m2 m3 m4 m5 m6 m7, v6]) (rows := [rw0 p]) h.xl E.R1 (fun id b s e => by
      rcases Nat.eq_zero_or_pos id with e0 | e0
      · rw [e0, E.R0] at e; cases e; exact ⟨h.pl, by simp⟩
      · rw [E.R1 id e0] at e; cases e) (fun id id' b s s' e e' => by
      rcases Nat.eq_zero_or_pos id with e0 | e0
      · rcases Nat.eq_zero_or_pos id' with e1 | e1
        · rw [e0, e1]
        · rw [E.R1 id' e1] at e'; cases e'
      · rw [E.R1 id e0] at e; cases e) rfl (fun id hid => by
      have : id = 0 := by simp at hid; omega
      subst this
      exact h.row) hs (show 7 ≤ 57 by decide) hv
  refine wpIn_seq (piece_sound S0_ok mixed E.R0 h0 (fun id hid => E.R1 id hid) (Nat.le_refl 1) (lokP q0 (by kernel_rfl)) (by simp) (pe0 da db cs m0 m1 m2 m3 m4 m5 m6 m7 j room l v6 p) (fr8 _ _ _ _ _ _ _ _ _ _ _ _ _ _ _ _ hv6 rfl) (frB p) fun a1 W1 k1 => ?_)
  obtain ⟨Z1, z1, j1, g1⟩ := stp E hZ hJ k1
  have H1 : Hd da db cs m0 m1 m2 m3 m4 m5 m6 m7 l X R pb j room v6 .u p a1 W1 := Hd.left h rfl rfl rfl rfl k1
  refine wpIn_seq (wpIn_seq (piece_sound S0_ok mixed E.R0 (H1.sr E) (fun id hid => E.R1 id hid) (Nat.le_refl 1) (lokP q1 (by kernel_rfl)) (by simp) (pe1 da db cs m0 m1 m2 m3 m4 m5 m6 m7 j room l v6 p) (freeL_app (fr8 _ _ _ _ _ _ _ _ _ _ _ _ _ _ _ _ hv6 rfl) rfl) (frB p) fun a2 W2 k2 => ?_))
  obtain ⟨Z2, z2, j2, g2⟩ := stp E z1 j1 k2
  have H2 : Hd da db cs m0 m1 m2 m3 m4 m5 m6 m7 l X R pb j room v6 .u p a2 W2 := Hd.left H1.at_ rfl rfl rfl H1.df k2
  exact hc a2 W2 Z2 H2 (k2.tmp 8 (by decide)).bool_inv z2 j2 (g1.trans g2)

theorem plain8 {D : Nat → Nat → Prop} {W : World} {p : List AV} {v : Value} (h : VR Try.prog D R W (ag8 p) v) : plain (ag8 p) = true := by
  obtain ⟨cv, _, _, h⟩ := h.agg_inv
  have k : ∀ i, i < 8 → IntKind.i64.min ≤ fI p i ∧ fI p i ≤ IntKind.i64.max := by
    intro i hi
    have := h i hi
    rcases i with _ | _ | _ | _ | _ | _ | _ | _ | i
    all_goals first | (exfalso; omega) | exact VR.int_inv this |>.2
  have := k 0 (by decide); have := k 1 (by decide); have := k 2 (by decide); have := k 3 (by decide)
  have := k 4 (by decide); have := k 5 (by decide); have := k 6 (by decide); have := k 7 (by decide)
  simp only [ag8, plain, plainL, Bool.and_eq_true, decide_eq_true_eq, and_true]
  exact ⟨k 0 (by decide), k 1 (by decide), k 2 (by decide), k 3 (by decide), k 4 (by decide), k 5 (by decide), k 6 (by decide), k 7 (by decide)⟩
theorem leaf89 (E : Env l X Y R pb xs J Jx) {room : Int} {v6 : AV} {p : List AV} {W : World} {Z : Nat → Prop} {i : Nat} {av : Array Value} (hv6 : free Try.prog 1 v6 = true) (h : At l X R pb p W) (hs : av.size = 7)
    (hv : ∀ k, k < 7 → VR Try.prog (XR X R) R W (([.i .i64 (cs.length : Nat), .i .i64 room, rpR da db cs, rpY l, .p 0 0 0, rpM m0 m1 m2 m3 m4 m5 m6 m7, v6] : List AV).getD k .u) (av.getD k undef)) (hZ : Z pb) (hJ : J Z i W)
    (hx : xs[i]? = some (enc8 p)) : Calls Try.prog 59 av W (Done l X R pb J Jx W (i + 1) p) := by
  refine calls_of_FW (ro := none) (n := 0) (callsIn_of_wp Try.func59 body89 trivial ?_)
  refine pre89 E hv6 h hs hv hZ hJ fun a2 W2 Z2 H2 ht z2 j2 g2 => ?_
  refine wpIn_cond (t := true) (ht.trans (by simp)) ?_
  simp only [if_true]
  rw [q2_eq]
  refine wpIn_seq (wpIn_region ?_)
  rw [sz2, show List.range 4 = List.range' 0 2 ++ [2, 3] by decide]
  refine pieceB_sound S0_ok E.R0 (H2.sr E) (fun id hid => E.R1 id hid) (Nat.le_refl 1) (by rw [sz2]; decide) (by simp) (pe2 da db cs m0 m1 m2 m3 m4 m5 m6 m7 _ room l v6 p) (by kernel_rfl) (frB p) fun a3 W3 k3 => ?_
  obtain ⟨Z3, z3, j3, g3⟩ := stp E z2 j2 k3
  have A3 := H2.at_.left k3
  have hy : a3.eval (.tmp 16) = .func (.yield l) #[] #[] := by
    have := k3.tmp 0 (by decide)
    simp only [List.getD_cons_zero] at this
    show a3.tmps.getD 16 undef = _
    generalize a3.tmps.getD 16 undef = q at this
    cases this; rfl
  have sz3 : a3.tmps.size = 57 := k3.nt.trans rfl
  have df3 : a3.defers = [] := k3.df.trans H2.df
  simp only [wpOpsIn, o2a_at, o2b_at]
  rw [if_pos (by simp [Region.wanted, o2a_g])]
  have hx8 : VR Try.prog (XR X R) R W3 (ag8 p) (a3.eval (.tmp 17)) := k3.tmp 1 (by decide)
  refine yield_op o2a_op rfl rfl hy hx8 (plain8 hx8) (fun m => E.yield Z3 i _ W3 m j3 hx) fun e4 W4 he => ?_
  have tl : ∀ (b : Bool) (Q : Exit → Act → World → Prop), (∀ a', a'.defers = [] → a'.tmps.getD 9 undef = .bool b → Q .normal a' W4) → (if Region.wanted o2b (yielded ops2 (a3.put o2a.dst (.bool b)).tmps) = true then o2b.wpIn (FW none) 0 Try.prog (a3.put o2a.dst (.bool b)) W4 (fun a w => Q .normal a w) Q
      else (∀ f, o2b.about Try.prog W4 (a3.put o2a.dst (.bool b)).eval = some f → (FW none).fn f) ∧ Q .normal ((a3.put o2a.dst (.bool b)).put o2b.dst undef) W4) := by
    intro b Q hQ
    rw [if_pos (by simp [Region.wanted, o2b_g])]
    have e18 : (a3.put o2a.dst (.bool b)).eval (.tmp 18) = .bool b := by
      rw [o2a_d]
      exact (put_get (by rw [sz3]; decide)).trans (if_pos rfl)
    refine wpIn_value (w' := W4) (v := .bool b) (fun c hc => by rw [o2b_op] at hc; cases hc) (by simp only [execOp, o2b_op, e18, Sem.run_pure]) (hQ _ ?_ ?_)
    · rw [put_defers, put_defers]; exact df3
    · rw [o2b_d, o2a_d]
      exact (put_get (by rw [put_size, sz3]; decide)).trans (if_pos rfl)
  rcases he with ⟨rfl, j4, kp⟩ | ⟨rfl, jx, kp⟩
  · refine ⟨_, rfl, tl true _ fun a' hd' ht' => ?_⟩
    refine wpIn_ret (fin89 hd' ht' (.inl ⟨rfl, Z3, z3, j4, ⟨fun b o hb => Nat.lt_of_lt_of_le (A3.xl b o hb) kp.size, Nat.lt_of_lt_of_le A3.pl kp.size, row_kp kp E.YX (fun b s o e => ?_) A3.row⟩, (g2.trans g3).trans (good_kp kp E.YX)⟩))
    rw [E.R0] at e; cases e; exact E.pX o
  · refine ⟨_, rfl, tl false _ fun a' hd' ht' => ?_⟩
    exact wpIn_ret (fin89 hd' ht' (.inr ⟨rfl, Z3, jx⟩))
end Go.Proofs.Ytfbfohkgajeopac

set_option maxRecDepth 100000
set_option linter.unusedVariables false
set_option linter.unusedSimpArgs false
namespace Go.Proofs.Ytfbfohkgajeopac
open Go Go.Ev Go.RowKit
noncomputable def o8 : Oper := (match q8 with | .region _ o _ => o | _ => #[])[0]?.getD default
theorem q8_eq : q8 = .region 8 #[o8] false := by kernel_rfl
theorem o8_op : o8.op = .assign (.const (.bool false)) := by kernel_rfl
theorem o8_g : o8.guard = none := by kernel_rfl
theorem o8_d : o8.dst = some 9 := by kernel_rfl
section
variable (da db : Int) (cs : List (List AV)) (m0 m1 m2 m3 m4 m5 m6 m7 : Int) (l : Nat) (X : Nat → Nat → Prop) (R : Nat → Option (Nat × Nat × Nat)) (pb : Nat) (xs : List (List AV)) (J : (Nat → Prop) → Nat → World → Prop) (Jx : (Nat → Prop) → World → Prop)
def RecOK (j : Nat) (room : Int) (p : List AV) (lst : List (List AV)) (p' : List AV) : Prop :=
  ∀ (W : World) (Z : Nat → Prop) (i : Nat) (av : Array Value), At l X R pb p W → av.size = 7 →
    (∀ k, k < 7 → VR Try.prog (XR X R) R W (([.i .i64 (j : Nat), .i .i64 room, rpR da db cs, rpY l, .p 0 0 0, rpM m0 m1 m2 m3 m4 m5 m6 m7, RP da db cs m0 m1 m2 m3 m4 m5 m6 m7 l (cs.length - j)] : List AV).getD k .u) (av.getD k undef)) → Z pb → J Z i W →
    (∀ q x, lst[q]? = some x → xs[i + q]? = some x) → Calls Try.prog 59 av W (Done l X R pb J Jx W (i + lst.length) p')
def LoopOK (j : Nat) (room : Int) (p : List AV) (lst : List (List AV)) (p' : List AV) : Prop :=
  ∀ (W : World) (Z : Nat → Prop) (i : Nat) (a : Act), j < cs.length → j < 8 → Hd da db cs m0 m1 m2 m3 m4 m5 m6 m7 l X R pb j room (RP da db cs m0 m1 m2 m3 m4 m5 m6 m7 l (cs.length - j)) (.i .i64 (wid db cs j)) p a W → Z pb → J Z i W →
    (∀ q x, lst[q]? = some x → xs[i + q]? = some x) → ∀ (Q : Exit → Act → World → Prop),
    (∀ a' W' Z' room', Hd da db cs m0 m1 m2 m3 m4 m5 m6 m7 l X R pb j room' (RP da db cs m0 m1 m2 m3 m4 m5 m6 m7 l (cs.length - j)) (.i .i64 (wid db cs j)) p' a' W' → Z' pb → J Z' (i + lst.length) W' → GoodW X R W W' → Q .normal a' W') →
    (∀ a' W' Z', a'.defers = [] → a'.tmps.getD 9 undef = .bool false → Jx Z' W' → Q .ret a' W') →
    ∀ (bf : Frame) (k : List Item) (fs : List Frame), bf.roundOf = (FW none).round → (FW none).fn bf.fn → (FW none).room (fs.length + 1 + 0) → ∃ e a' w', Exit.inBlock 0 Q e a' w' ∧ ArrivesIn (Machine.fenced Try.prog (FW none)) Try.prog (lone (bf.atR a (.code qB :: .inLoop qB :: k)) fs W) bf k fs e a' w'
end
variable {da db : Int} {cs : List (List AV)} {m0 m1 m2 m3 m4 m5 m6 m7 : Int} {l : Nat} {X : Nat → Nat → Prop} {Y : Nat → Prop} {R : Nat → Option (Nat × Nat × Nat)} {pb : Nat} {xs : List (List AV)} {J : (Nat → Prop) → Nat → World → Prop} {Jx : (Nat → Prop) → World → Prop}
theorem idx (j : Nat) : 0 + ((j : Nat) : Int).toNat * 1 = j := by simp
theorem node89 (E : Env l X Y R pb xs J Jx) {j : Nat} {room : Int} {p p' : List AV} {lst : List (List AV)} (hj : j < cs.length) (h8 : j < 8)
    (ih : LoopOK da db cs m0 m1 m2 m3 m4 m5 m6 m7 l X R pb xs J Jx j room (setCs p j [.i .i64 0]) lst p') : RecOK da db cs m0 m1 m2 m3 m4 m5 m6 m7 l X R pb xs J Jx j room p lst (setCs p' j [.i .i64 0]) := by
  intro W Z i av h hs hv hZ hJ hx
  obtain ⟨g1, g2, g3⟩ := gj_at h8
  have gl : inb ((j : Nat) : Int) cs.length = true := by simp [inb, hj]
  have hv6 := RP_free (da := da) (db := db) (cs := cs) (m0 := m0) (m1 := m1) (m2 := m2) (m3 := m3) (m4 := m4) (m5 := m5) (m6 := m6) (m7 := m7) (l := l) (cs.length - j)
  refine calls_of_FW (ro := none) (n := 0) (callsIn_of_wp Try.func59 body89 trivial ?_)
  refine pre89 E hv6 h hs hv hZ hJ fun a2 W2 Z2 H2 ht z2 j2 k2 => ?_
  refine wpIn_cond (t := false) (ht.trans (by congr 1; simp; omega)) ?_
  refine wpIn_skip ?_
  show (Code.seq q3 _).wpIn _ _ _ _ _ _
  have E3 := pe3 da db cs m0 m1 m2 m3 m4 m5 m6 m7 j room l (RP da db cs m0 m1 m2 m3 m4 m5 m6 m7 l (cs.length - j)) p
  rw [gl, cond_true] at E3
  refine wpIn_seq (piece_sound S0_ok mixed E.R0 (H2.sr E) (fun id hid => E.R1 id hid) (Nat.le_refl 1) (lokP q3 (by kernel_rfl)) (by simp) E3 (fr8 _ _ _ _ _ _ _ _ _ _ _ _ _ _ _ _ hv6 rfl) (frB p) fun a3 W3 k3 => ?_)
  obtain ⟨Z3, z3, j3, q3'⟩ := stp E z2 j2 k3
  have H3 : Hd da db cs m0 m1 m2 m3 m4 m5 m6 m7 l X R pb j room (RP da db cs m0 m1 m2 m3 m4 m5 m6 m7 l (cs.length - j)) (.i .i64 (wid db cs j)) p a3 W3 := Hd.left H2.at_ rfl rfl rfl H2.df k3
  have E4 := pe4 da db cs m0 m1 m2 m3 m4 m5 m6 m7 j room (wid db cs j) l (RP da db cs m0 m1 m2 m3 m4 m5 m6 m7 l (cs.length - j)) p
  rw [g1, g2, idx] at E4
  refine wpIn_seq (wpIn_seq (piece_sound S0_ok mixed E.R0 (H3.sr E) (fun id hid => E.R1 id hid) (Nat.le_refl 1) (lokP q4 (by kernel_rfl)) (by simp) E4 (fr8 _ _ _ _ _ _ _ _ _ _ _ _ _ _ _ _ hv6 rfl) (frB _) fun a4 W4 k4 => ?_))
  obtain ⟨Z4, z4, j4, q4'⟩ := stp E z3 j3 k4
  have H4 : Hd da db cs m0 m1 m2 m3 m4 m5 m6 m7 l X R pb j room (RP da db cs m0 m1 m2 m3 m4 m5 m6 m7 l (cs.length - j)) (.i .i64 (wid db cs j)) (setCs p j [.i .i64 0]) a4 W4 := Hd.left H3.at_ rfl rfl rfl H3.df k4
  refine wpIn_block (loop_of ?_)
  refine ih W4 Z4 i a4 hj h8 H4 z4 j4 hx _ (fun a5 W5 Z5 room' H5 z5 j5 q5' => ?_) (fun a5 W5 Z5 d5 t5 jx => ?_)
  · show (Code.seq q10 (.seq q11 .ret)).wpIn _ _ _ _ _ _
    have EA := peA da db cs m0 m1 m2 m3 m4 m5 m6 m7 j room' (wid db cs j) l (RP da db cs m0 m1 m2 m3 m4 m5 m6 m7 l (cs.length - j)) p'
    rw [g1, g2, idx] at EA
    refine wpIn_seq (piece_sound S0_ok mixed E.R0 (H5.sr E) (fun id hid => E.R1 id hid) (Nat.le_refl 1) (lokP q10 (by kernel_rfl)) (by simp) EA (fr8 _ _ _ _ _ _ _ _ _ _ _ _ _ _ _ _ hv6 rfl) (frB _) fun a6 W6 k6 => ?_)
    obtain ⟨Z6, z6, j6, q6'⟩ := stp E z5 j5 k6
    have H6 : Hd da db cs m0 m1 m2 m3 m4 m5 m6 m7 l X R pb j room' (RP da db cs m0 m1 m2 m3 m4 m5 m6 m7 l (cs.length - j)) (.i .i64 (wid db cs j)) (setCs p' j [.i .i64 0]) a6 W6 := Hd.left H5.at_ rfl rfl rfl H5.df k6
    refine wpIn_seq (piece_sound S0_ok mixed E.R0 (H6.sr E) (fun id hid => E.R1 id hid) (Nat.le_refl 1) (lokP q11 (by kernel_rfl)) (by simp) (peB da db cs m0 m1 m2 m3 m4 m5 m6 m7 j room' (wid db cs j) l _ _) rfl (frB _) fun a7 W7 k7 => ?_)
    obtain ⟨Z7, z7, j7, q7'⟩ := stp E z6 j6 k7
    exact wpIn_ret (fin89 (k7.df.trans H6.df) (k7.tmp 0 (by decide)).bool_inv (.inl ⟨rfl, Z7, z7, j7, H6.at_.left k7, k2.trans (q3'.trans (q4'.trans (q5'.trans (q6'.trans q7'))))⟩))
  · exact fin89 d5 t5 (.inr ⟨rfl, Z5, jx⟩)
theorem stop89 (E : Env l X Y R pb xs J Jx) {j : Nat} {room : Int} {p : List AV} (hst : (decide (fI p j ≤ fI [AV.i IntKind.i64 m0, AV.i IntKind.i64 m1, AV.i IntKind.i64 m2, AV.i IntKind.i64 m3, AV.i IntKind.i64 m4, AV.i IntKind.i64 m5, AV.i IntKind.i64 m6, AV.i IntKind.i64 m7] j) && decide (room ≥ 0)) = false) :
    LoopOK da db cs m0 m1 m2 m3 m4 m5 m6 m7 l X R pb xs J Jx j room p [] p := by
  intro W Z i a hj h8 H hZ hJ hx Q h1 h2
  obtain ⟨g1, g2, g3⟩ := gj_at h8
  have hv6 := RP_free (da := da) (db := db) (cs := cs) (m0 := m0) (m1 := m1) (m2 := m2) (m3 := m3) (m4 := m4) (m5 := m5) (m6 := m6) (m7 := m7) (l := l) (cs.length - j)
  have E5 := pe5 da db cs m0 m1 m2 m3 m4 m5 m6 m7 j room (wid db cs j) l (RP da db cs m0 m1 m2 m3 m4 m5 m6 m7 l (cs.length - j)) p
  rw [g1, g2, g3, idx] at E5
  have E5' : piece q5 [0, 1, 2, 3, 4, 5, 6, 10, 40] (stH (vH da db cs m0 m1 m2 m3 m4 m5 m6 m7 l j room (RP da db cs m0 m1 m2 m3 m4 m5 m6 m7 l (cs.length - j)) (.i .i64 (wid db cs j))) p) = some (.nrm, vH da db cs m0 m1 m2 m3 m4 m5 m6 m7 l j room (RP da db cs m0 m1 m2 m3 m4 m5 m6 m7 l (cs.length - j)) (.i .i64 (wid db cs j)) ++ [.b false], rw0 p) := by
    rw [E5]
    cases hd : decide (fI p j ≤ fI [AV.i IntKind.i64 m0, AV.i IntKind.i64 m1, AV.i IntKind.i64 m2, AV.i IntKind.i64 m3, AV.i IntKind.i64 m4, AV.i IntKind.i64 m5, AV.i IntKind.i64 m6, AV.i IntKind.i64 m7] j) with
    | false => rfl
    | true =>
      rw [hd, Bool.true_and] at hst
      simp only [cond_true, hst]
      rfl
  refine of_loop ?_
  have hq := qB_eq
  generalize hB : qB = B at hq ⊢
  rw [hq]
  refine wpIn_seq (wpIn_seq (piece_sound S0_ok mixed E.R0 (H.sr E) (fun id hid => E.R1 id hid) (Nat.le_refl 1) (lokP q5 (by kernel_rfl)) (by simp) E5' (freeL_app (fr8 _ _ _ _ _ _ _ _ _ _ _ _ _ _ _ _ hv6 rfl) rfl) (frB _) fun a1 W1 k1 => ?_))
  obtain ⟨Z1, z1, j1, q1'⟩ := stp E hZ hJ k1
  have H1 : Hd da db cs m0 m1 m2 m3 m4 m5 m6 m7 l X R pb j room (RP da db cs m0 m1 m2 m3 m4 m5 m6 m7 l (cs.length - j)) (.i .i64 (wid db cs j)) p a1 W1 := Hd.left H.at_ rfl rfl rfl H.df k1
  refine wpIn_cond (t := false) (k1.tmp 8 (by decide)).bool_inv ?_
  refine wpIn_exit ?_
  show Exit.inBlock 0 Q (.exit 0) a1 W1
  simp only [Exit.inBlock, if_true]
  exact h1 a1 W1 Z1 room H1 z1 j1 q1'
end Go.Proofs.Ytfbfohkgajeopac

set_option maxRecDepth 100000
set_option linter.unusedVariables false
set_option linter.unusedSimpArgs false
namespace Go.Proofs.Ytfbfohkgajeopac
open Go Go.Ev Go.RowKit
variable {da db : Int} {cs : List (List AV)} {m0 m1 m2 m3 m4 m5 m6 m7 : Int} {l : Nat} {X : Nat → Nat → Prop} {Y : Nat → Prop} {R : Nat → Option (Nat × Nat × Nat)} {pb : Nat} {xs : List (List AV)} {J : (Nat → Prop) → Nat → World → Prop} {Jx : (Nat → Prop) → World → Prop}
theorem wrap_id {x : Int} (h0 : -9223372036854775808 ≤ x) (h1 : x ≤ 9223372036854775807) : IntKind.i64.wrap x = x := by
  simp only [IntKind.wrap, IntKind.signed, IntKind.bits]
  simp
  omega
theorem app2_0 {x y : Value} {cv : Array Value} : (#[x, y] ++ cv).getD 0 undef = x := by simp [Array.getD_eq_getD_getElem?, Array.getElem?_append]
theorem app2_1 {x y : Value} {cv : Array Value} : (#[x, y] ++ cv).getD 1 undef = y := by simp [Array.getD_eq_getD_getElem?, Array.getElem?_append]
theorem app2_2 {x y : Value} {cv : Array Value} {k : Nat} : (#[x, y] ++ cv).getD (k + 2) undef = cv.getD k undef := by
  have : ¬ (k + 2 < 2) := by omega
  simp [Array.getD_eq_getD_getElem?, Array.getElem?_append, this]
theorem tab89 : ∃ fn, Try.prog.funcs[59]? = some fn ∧ (fn.name == "runtime.NumGoroutine") = false ∧ fn.body.isSome = true := ⟨Try.f59, Try.func59, names 59 _ Try.func59, by rw [body89]; rfl⟩
theorem step89 (E : Env l X Y R pb xs J Jx) {j : Nat} {room : Int} {p p1 p2 : List AV} {l1 l2 : List (List AV)} (hle : fI p j ≤ fI [AV.i IntKind.i64 m0, AV.i IntKind.i64 m1, AV.i IntKind.i64 m2, AV.i IntKind.i64 m3, AV.i IntKind.i64 m4, AV.i IntKind.i64 m5, AV.i IntKind.i64 m6, AV.i IntKind.i64 m7] j) (hr : 0 ≤ room)
    (ih1 : RecOK da db cs m0 m1 m2 m3 m4 m5 m6 m7 l X R pb xs J Jx (j + 1) room p l1 p1)
    (ih2 : LoopOK da db cs m0 m1 m2 m3 m4 m5 m6 m7 l X R pb xs J Jx j (IntKind.i64.wrap (room - wid db cs j)) (setCs p1 j [.i .i64 (IntKind.i64.wrap (fI p1 j + 1))]) l2 p2) :
    LoopOK da db cs m0 m1 m2 m3 m4 m5 m6 m7 l X R pb xs J Jx j room p (l1 ++ l2) p2 := by
  intro W Z i a hj h8 H hZ hJ hx Q h1 h2
  obtain ⟨g1, g2, g3⟩ := gj_at h8
  obtain ⟨d, hd⟩ : ∃ d, cs.length - j = d + 1 := ⟨cs.length - (j + 1), by omega⟩
  have hd' : cs.length - (j + 1) = d := by omega
  have hv6 : ∀ d, free Try.prog 1 (RP da db cs m0 m1 m2 m3 m4 m5 m6 m7 l d) = true := RP_free
  rw [hd] at H h1
  have hRP : RP da db cs m0 m1 m2 m3 m4 m5 m6 m7 l (d + 1) = .rp [.oth] [fn89 da db cs m0 m1 m2 m3 m4 m5 m6 m7 l (RP da db cs m0 m1 m2 m3 m4 m5 m6 m7 l d)] 0 := rfl
  have E5 := pe5 da db cs m0 m1 m2 m3 m4 m5 m6 m7 j room (wid db cs j) l (RP da db cs m0 m1 m2 m3 m4 m5 m6 m7 l (d + 1)) p
  rw [g1, g2, g3, idx, decide_eq_true hle, show decide (room ≥ 0) = true from decide_eq_true hr] at E5
  refine of_loop ?_
  have hq := qB_eq
  generalize hB : Code.loop qB = B0
  generalize hB : qB = B at hq ⊢
  rw [hq]
  refine wpIn_seq (wpIn_seq (piece_sound S0_ok mixed E.R0 (H.sr E) (fun id hid => E.R1 id hid) (Nat.le_refl 1) (lokP q5 (by kernel_rfl)) (by simp) E5 (freeL_app (fr8 _ _ _ _ _ _ _ _ _ _ _ _ _ _ _ _ (hv6 _) rfl) rfl) (frB _) fun a1 W1 k1 => ?_))
  obtain ⟨Z1, z1, j1, q1'⟩ := stp E hZ hJ k1
  have H1 : Hd da db cs m0 m1 m2 m3 m4 m5 m6 m7 l X R pb j room (RP da db cs m0 m1 m2 m3 m4 m5 m6 m7 l (d + 1)) (.i .i64 (wid db cs j)) p a1 W1 := Hd.left H.at_ rfl rfl rfl H.df k1
  refine wpIn_cond (t := true) (k1.tmp 8 (by decide)).bool_inv ?_
  refine wpIn_skip ?_
  show (Code.seq (.block 1 (.seq (.seq q7 (.cond (.tmp 51) (.seq q8 .ret) .skip)) q9)) q6).wpIn _ _ _ _ _ _
  refine wpIn_seq (wpIn_block (wpIn_seq (wpIn_seq ?_)))
  rw [q7_eq]
  refine wpIn_region ?_
  rw [sz7, show List.range 6 = List.range' 0 4 ++ [4, 5] by decide]
  have H1' := H1
  rw [hRP] at H1'
  refine pieceB_sound S0_ok E.R0 (H1'.sr E) (fun id hid => E.R1 id hid) (Nat.le_refl 1) (by rw [sz7]; decide) (by simp) (pe7 da db cs m0 m1 m2 m3 m4 m5 m6 m7 j room (wid db cs j) l (RP da db cs m0 m1 m2 m3 m4 m5 m6 m7 l d) p) (freeL_app (fr8 _ _ _ _ _ _ _ _ _ _ _ _ _ _ _ _ (hv6 (d + 1)) rfl) ?_) (frB p) fun a2 W2 k2 => ?_
  · have : freeL Try.prog 1 [fn89 da db cs m0 m1 m2 m3 m4 m5 m6 m7 l (RP da db cs m0 m1 m2 m3 m4 m5 m6 m7 l d), .i .i64 (IntKind.i64.wrap ((j : Int) + 1)), .i .i64 room] = ((free Try.prog 1 (RP da db cs m0 m1 m2 m3 m4 m5 m6 m7 l d) && true) && true) := by kernel_rfl
    rw [this, hv6 d]; rfl
  obtain ⟨Z2, z2, j2, q2'⟩ := stp E z1 j1 k2
  have H2 : Hd da db cs m0 m1 m2 m3 m4 m5 m6 m7 l X R pb j room (RP da db cs m0 m1 m2 m3 m4 m5 m6 m7 l (d + 1)) (.i .i64 (wid db cs j)) p a2 W2 := Hd.left H1.at_ rfl rfl rfl H1.df k2
  have t46 := k2.tmp 8 (by decide)
  have t48 := k2.tmp 9 (by decide)
  have t49 := k2.tmp 10 (by decide)
  change VR Try.prog (XR X R) R W2 (fn89 da db cs m0 m1 m2 m3 m4 m5 m6 m7 l (RP da db cs m0 m1 m2 m3 m4 m5 m6 m7 l d)) (a2.tmps.getD 46 undef) at t46
  change VR Try.prog (XR X R) R W2 (.i .i64 (IntKind.i64.wrap ((j : Int) + 1))) (a2.tmps.getD 48 undef) at t48
  change VR Try.prog (XR X R) R W2 (.i .i64 room) (a2.tmps.getD 49 undef) at t49
  rw [show IntKind.i64.wrap ((j : Int) + 1) = ((j + 1 : Nat) : Int) from (wrap_id (by omega) (by omega)).trans (by omega)] at t48
  have hf : ∃ cv, a2.eval (.tmp 46) = .func (.func 59) #[] cv ∧ cv.size = 5 ∧ ∀ k, k < 5 → VR Try.prog (XR X R) R W2 (([rpR da db cs, rpY l, .p 0 0 0, rpM m0 m1 m2 m3 m4 m5 m6 m7, RP da db cs m0 m1 m2 m3 m4 m5 m6 m7 l d] : List AV).getD k .u) (cv.getD k undef) := by
    show ∃ cv, a2.tmps.getD 46 undef = _ ∧ _
    generalize a2.tmps.getD 46 undef = q at t46
    unfold fn89 at t46
    cases t46 with
    | fn c1 c2 => exact ⟨_, rfl, c1, c2⟩
  obtain ⟨cv, hy, c1, c2⟩ := hf
  have sz2' : a2.tmps.size = 57 := k2.nt.trans rfl
  simp only [wpOpsIn, o7a_at, o7b_at]
  rw [if_pos (by simp [Region.wanted, o7a_g])]
  obtain ⟨fn, f1, f2, f3⟩ := tab89
  refine enter_op o7a_op rfl hy f1 f2 f3 (ih1 W2 Z2 i _ H2.at_ (by simp [c1]) (fun k hk => ?_) z2 j2 (fun q x hq => hx q x (by
    have hlt := (List.getElem?_eq_some_iff.1 hq).1
    rw [List.getElem?_append_left hlt]; exact hq))) fun e3 W3 he => ?_
  · rw [hd']
    have em : Array.map a2.eval #[Operand.tmp 48, Operand.tmp 49] = #[a2.tmps.getD 48 undef, a2.tmps.getD 49 undef] := by simp [Act.eval]
    dsimp only
    rw [em]
    rcases k with _ | _ | k
    · rw [app2_0]; exact t48
    · rw [show 0 + 1 = 1 from rfl, app2_1]; exact t49
    · rw [show k + 1 + 1 = k + 2 from rfl, app2_2]; exact c2 k (by omega)
  -- the result, and its opposite
  have e50 : ∀ b : Bool, (a2.put o7a.dst (.bool b)).eval (.tmp 50) = .bool b := fun b => by
    rw [o7a_d]
    exact (put_get (by rw [sz2']; decide)).trans (if_pos rfl)
  have e51 : ∀ b : Bool, ((a2.put o7a.dst (.bool b)).put o7b.dst (.bool (!b))).eval (.tmp 51) = .bool (!b) := fun b => by
    rw [o7a_d, o7b_d]
    exact (put_get (by rw [put_size, sz2']; decide)).trans (if_pos rfl)
  have tl : ∀ (b : Bool) (nx : Act → World → Prop) (Q : Exit → Act → World → Prop), nx ((a2.put o7a.dst (.bool b)).put o7b.dst (.bool (!b))) W3 → (if Region.wanted o7b (yielded ops7 (a2.put o7a.dst (.bool b)).tmps) = true then o7b.wpIn (FW none) 0 Try.prog (a2.put o7a.dst (.bool b)) W3 nx Q
      else (∀ f, o7b.about Try.prog W3 (a2.put o7a.dst (.bool b)).eval = some f → (FW none).fn f) ∧ nx ((a2.put o7a.dst (.bool b)).put o7b.dst undef) W3) := by
    intro b nx Q hQ
    rw [if_pos (by simp [Region.wanted, o7b_g])]
    refine wpIn_value (w' := W3) (v := .bool (!b)) (fun c hc => by rw [o7b_op] at hc; cases hc) ?_ hQ
    simp only [execOp, o7b_op, e50 b]
    simp [Op.unary]
  have dfs : ∀ b : Bool, ((a2.put o7a.dst (.bool b)).put o7b.dst (.bool (!b))).defers = [] := fun b => by rw [put_defers, put_defers]; exact H2.df
  rcases he with ⟨rfl, Z3, z3, j3, A3, q3'⟩ | ⟨rfl, Z3, jx⟩
  · refine ⟨_, rfl, tl true _ _ ?_⟩
    show (Code.cond (.tmp 51) (.seq q8 .ret) .skip).wpIn (FW none) 0 Try.prog _ _ W3
    refine wpIn_cond (t := false) (e51 true) ?_
    refine wpIn_skip ?_
    show q9.wpIn (FW none) 0 Try.prog _ _ W3
    have H3 : Hd da db cs m0 m1 m2 m3 m4 m5 m6 m7 l X R pb j room (RP da db cs m0 m1 m2 m3 m4 m5 m6 m7 l (d + 1)) (.i .i64 (wid db cs j)) p1 ((a2.put o7a.dst (.bool true)).put o7b.dst (.bool (!true))) W3 := by
      refine ⟨A3, fun k hk => ?_, ?_, dfs true⟩
      · rw [o7a_d, o7b_d, put_get (by rw [put_size, sz2']; decide), put_get (by rw [sz2']; decide)]
        rw [if_neg (by rcases k with _ | _ | _ | _ | _ | _ | _ | _ | k <;> first | (exfalso; omega) | decide), if_neg (by rcases k with _ | _ | _ | _ | _ | _ | _ | _ | k <;> first | (exfalso; omega) | decide)]
        exact q3'.VR (H2.tmp k hk)
      · rw [o7a_d, o7b_d, put_size, put_size]; exact sz2'
    refine piece_sound S0_ok mixed E.R0 (H3.sr E) (fun id hid => E.R1 id hid) (Nat.le_refl 1) (lokP q9 (by kernel_rfl)) (by simp) (pe9 da db cs m0 m1 m2 m3 m4 m5 m6 m7 j room (wid db cs j) l _ p1) (fr8 _ _ _ _ _ _ _ _ _ _ _ _ _ _ _ _ (hv6 _) rfl) (frB _) fun a4 W4 k4 => ?_
    obtain ⟨Z4, z4, j4, q4'⟩ := stp E z3 j3 k4
    have H4 : Hd da db cs m0 m1 m2 m3 m4 m5 m6 m7 l X R pb j (IntKind.i64.wrap (room - wid db cs j)) (RP da db cs m0 m1 m2 m3 m4 m5 m6 m7 l (d + 1)) (.i .i64 (wid db cs j)) p1 a4 W4 := Hd.left H3.at_ rfl rfl rfl H3.df k4
    show q6.wpIn (FW none) 0 Try.prog _ a4 W4
    have E6 := pe6 da db cs m0 m1 m2 m3 m4 m5 m6 m7 j (IntKind.i64.wrap (room - wid db cs j)) (wid db cs j) l (RP da db cs m0 m1 m2 m3 m4 m5 m6 m7 l (d + 1)) p1
    rw [g1, g2, idx] at E6
    refine piece_sound S0_ok mixed E.R0 (H4.sr E) (fun id hid => E.R1 id hid) (Nat.le_refl 1) (lokP q6 (by kernel_rfl)) (by simp) E6 (fr8 _ _ _ _ _ _ _ _ _ _ _ _ _ _ _ _ (hv6 _) rfl) (frB _) fun a5 W5 k5 => ?_
    obtain ⟨Z5, z5, j5, q5'⟩ := stp E z4 j4 k5
    have H5 : Hd da db cs m0 m1 m2 m3 m4 m5 m6 m7 l X R pb j (IntKind.i64.wrap (room - wid db cs j)) (RP da db cs m0 m1 m2 m3 m4 m5 m6 m7 l (d + 1)) (.i .i64 (wid db cs j)) (setCs p1 j [.i .i64 (IntKind.i64.wrap (fI p1 j + 1))]) a5 W5 := Hd.left H4.at_ rfl rfl rfl H4.df k5
    subst hB
    have hgood := q1'.trans (q2'.trans (q3'.trans (q4'.trans q5')))
    refine ih2 W5 Z5 (i + l1.length) a5 hj h8 (by rw [hd]; exact H5) z5 j5 (fun q x hq => ?_) Q (fun a6 W6 Z6 room' H6 z6 j6 q6' => ?_) h2
    · have := hx (l1.length + q) x (by rw [List.getElem?_append_right (by omega), Nat.add_sub_cancel_left]; exact hq)
      rw [Nat.add_assoc]; exact this
    · rw [hd] at H6
      refine h1 a6 W6 Z6 room' H6 z6 ?_ (hgood.trans q6')
      rw [List.length_append, ← Nat.add_assoc]; exact j6
  · refine ⟨_, rfl, tl false _ _ ?_⟩
    show (Code.cond (.tmp 51) (.seq q8 .ret) .skip).wpIn (FW none) 0 Try.prog _ _ W3
    refine wpIn_cond (t := true) (e51 false) ?_
    simp only [if_true]
    rw [q8_eq]
    refine wpIn_seq (wpIn_region ?_)
    show wpOpsIn (FW none) 0 Try.prog #[o8] _ [0] _ W3
    simp only [wpOpsIn, List.getElem?_toArray, List.getElem?_cons_zero]
    rw [if_pos (by simp [Region.wanted, o8_g])]
    refine wpIn_value (w' := W3) (v := .bool false) (fun c hc => by rw [o8_op] at hc; cases hc) (by simp only [execOp, o8_op, Sem.run_pure]; rfl) ?_
    refine wpIn_ret ?_
    show Q .ret _ W3
    refine h2 _ W3 Z3 ?_ ?_ jx
    · rw [put_defers]; exact dfs false
    · rw [o8_d]
      exact (put_get (by rw [o7b_d, o7a_d, put_size, put_size, sz2']; decide)).trans (if_pos rfl)
def Goal89 (da db : Int) (cs : List (List AV)) (m0 m1 m2 m3 m4 m5 m6 m7 : Int) (l : Nat) (X : Nat → Nat → Prop) (R : Nat → Option (Nat × Nat × Nat)) (pb : Nat) (xs : List (List AV)) (J : (Nat → Prop) → Nat → World → Prop) (Jx : (Nat → Prop) → World → Prop) : Bool → Nat → Int → List AV → List (List AV) → List AV → Prop
  | false => RecOK da db cs m0 m1 m2 m3 m4 m5 m6 m7 l X R pb xs J Jx
  | true => LoopOK da db cs m0 m1 m2 m3 m4 m5 m6 m7 l X R pb xs J Jx
theorem rec89 (E : Env l X Y R pb xs J Jx) {b : Bool} {j : Nat} {room : Int} {p p' : List AV} {lst : List (List AV)} (h : PT db cs [AV.i IntKind.i64 m0, AV.i IntKind.i64 m1, AV.i IntKind.i64 m2, AV.i IntKind.i64 m3, AV.i IntKind.i64 m4, AV.i IntKind.i64 m5, AV.i IntKind.i64 m6, AV.i IntKind.i64 m7] b j room p lst p') :
    Goal89 da db cs m0 m1 m2 m3 m4 m5 m6 m7 l X R pb xs J Jx b j room p lst p' := by
  induction h with
  | leaf => 
    intro W Z i av h hs hv hZ hJ hx
    exact leaf89 E (RP_free _) h hs hv hZ hJ (by simpa using hx 0 _ rfl)
  | node hj h8 _ ih => exact node89 E hj h8 ih
  | stop h => exact stop89 E h
  | step h1 h2 _ _ ih1 ih2 => exact step89 E h1 h2 ih1 ih2
end Go.Proofs.Ytfbfohkgajeopac

set_option maxRecDepth 100000
set_option linter.unusedVariables false
set_option linter.unusedSimpArgs false
namespace Go.Proofs.Ytfbfohkgajeopac
open Go Go.Ev Go.RowKit
variable {da db : Int} {cs : List (List AV)} {m0 m1 m2 m3 m4 m5 m6 m7 : Int} {l : Nat} {X : Nat → Nat → Prop} {Y : Nat → Prop} {R : Nat → Option (Nat × Nat × Nat)} {pb : Nat} {xs : List (List AV)} {J : (Nat → Prop) → Nat → World → Prop} {Jx : (Nat → Prop) → World → Prop}
def rng (X : List AV) : Prop := ∀ k, IntKind.i64.min ≤ fI X k ∧ fI X k ≤ IntKind.i64.max
theorem wrap_rng (x : Int) : IntKind.i64.min ≤ IntKind.i64.wrap x ∧ IntKind.i64.wrap x ≤ IntKind.i64.max := by
  simp only [IntKind.wrap, IntKind.signed, IntKind.bits, IntKind.min, IntKind.max]
  simp
  omega
theorem rng_set {X : List AV} (h : rng X) (j : Nat) {v : Int} (hv : IntKind.i64.min ≤ v ∧ v ≤ IntKind.i64.max) : rng (setCs X j [.i .i64 v]) := by
  intro k
  have e : fI (setCs X j [.i .i64 v]) k = v ∨ fI (setCs X j [.i .i64 v]) k = fI X k ∨ fI (setCs X j [.i .i64 v]) k = 0 := by
    show toI ((X.set j (.i .i64 v)).getD k .u) = v ∨ toI ((X.set j (.i .i64 v)).getD k .u) = toI (X.getD k .u) ∨ toI ((X.set j (.i .i64 v)).getD k .u) = 0
    simp only [List.getD_eq_getElem?_getD, List.getElem?_set]
    split
    · split
      · exact .inl rfl
      · exact .inr (.inr rfl)
    · exact .inr (.inl rfl)
  rcases e with e | e | e <;> rw [e]
  · exact hv
  · exact h k
  · decide
theorem plain_of_rng {X : List AV} (k : rng X) : plainL (enc8 X) = true := by
  simp only [enc8, ag8, plain, plainL, Bool.and_eq_true, decide_eq_true_eq, and_true]
  exact ⟨k 0, k 1, k 2, k 3, k 4, k 5, k 6, k 7⟩
theorem PT.plain {ms : List AV} {b : Bool} {j : Nat} {room : Int} {p p' : List AV} {lst : List (List AV)} (h : PT db cs ms b j room p lst p') : rng p → (∀ x, x ∈ lst → plainL x = true) ∧ rng p' := by
  induction h with
  | leaf =>
    intro hr
    refine ⟨fun x hx => ?_, hr⟩
    simp only [List.mem_singleton] at hx
    subst hx
    exact plain_of_rng hr
  | node _ _ _ ih =>
    intro hr
    obtain ⟨i1, i2⟩ := ih (rng_set hr _ (by decide))
    exact ⟨i1, rng_set i2 _ (by decide)⟩
  | stop _ =>
    intro hr
    refine ⟨fun x hx => ?_, hr⟩
    cases hx
  | step _ _ _ _ ih1 ih2 =>
    intro hr
    obtain ⟨i1, i2⟩ := ih1 hr
    obtain ⟨i3, i4⟩ := ih2 (rng_set i2 _ (wrap_rng _))
    refine ⟨fun x hx => ?_, i4⟩
    rcases List.mem_append.1 hx with hx | hx
    · exact i1 x hx
    · exact i3 x hx
noncomputable def bd88 : Code := match Try.f58.body with | some c => c | _ => .skip
noncomputable def at88 (p : List Bool) : Code := match locate bd88 p with | some c => c | _ => .skip
noncomputable def y0 : Code := at88 [false]
noncomputable def y1 : Code := at88 [true, false]
noncomputable def y2 : Code := at88 [true, true, false]
noncomputable def y3 : Code := at88 [true, true, true, false]
noncomputable def y4 : Code := at88 [true, true, true, true]
noncomputable def opsY : Array Oper := match y4 with | .region _ o _ => o | _ => #[]
theorem bd88_eq : bd88 = .seq y0 (.seq y1 (.seq y2 (.seq y3 y4))) := by kernel_rfl
theorem y4_eq : y4 = .region 4 opsY false := by kernel_rfl
theorem szY : opsY.size = 7 := by kernel_rfl
noncomputable def oY : Oper := (opsY[6]?).getD default
theorem oY_at : opsY[6]? = some oY := by kernel_rfl
theorem oY_op : oY.op = .call { callee := .value (.tmp 7), args := #[.const (.int .i64 0), .tmp 12], argTypes := #[3, 3] } := by kernel_rfl
theorem oY_g : oY.guard = none := by kernel_rfl
theorem body88 : Try.f58.body = some bd88 := by kernel_rfl
theorem res88 : Try.f58.results = #[] := by kernel_rfl
noncomputable def ro88 (t : Nat) : Bool := cond (Nat.beq t 4) false (ro 58 t)
noncomputable def fnY (da db : Int) (cs : List (List AV)) (m0 m1 m2 m3 m4 m5 m6 m7 : Int) (l : Nat) : AV := .fn 59 [rpR da db cs, rpY l, .p 1 0 0, rpM m0 m1 m2 m3 m4 m5 m6 m7, .p 2 0 0]
def zero8 : List AV := [.i .i64 0, .i .i64 0, .i .i64 0, .i .i64 0, .i .i64 0, .i .i64 0, .i .i64 0, .i .i64 0]
noncomputable def upY (st : St) : Option (AV × AV × Blk × Blk) := evC Try.prog S0 ro88 (fun _ _ => none) y0 [] st fun e s => match e with
  | .nrm => evC Try.prog S0 ro88 (fun _ _ => none) y1 [] s fun e s => match e with
    | .nrm => evC Try.prog S0 ro88 (fun _ _ => none) y2 [] s fun e s => match e with
      | .nrm => evC Try.prog S0 ro88 (fun _ _ => none) y3 [] s fun e s => match e with
        | .nrm => evOpsB Try.prog S0 ro88 opsY s.nx (opsY.toList.take 6) 0 s fun s => some (gt s.t 7, gt s.t 12, gm s.m 1, gm s.m 2)
        | _ => none
      | _ => none
    | _ => none
  | _ => none
theorem upY_eq (da db : Int) (cs : List (List AV)) (m0 m1 m2 m3 m4 m5 m6 m7 : Int) (l : Nat) : upY (initSt 14 [.yl l, rpR da db cs, rpM m0 m1 m2 m3 m4 m5 m6 m7] []) = some (fnY da db cs m0 m1 m2 m3 m4 m5 m6 m7 l, .i .i64 (IntKind.i64.wrap (da + db)), rw0 zero8, .row 121 [[fnY da db cs m0 m1 m2 m3 m4 m5 m6 m7 l]]) := by kernel_rfl
theorem rp_chain {W : World} {fb : Nat} {cv : Array Value} (hc : W.cell? ⟨fb, 0, none⟩ = some (.func (.func 59) #[] cv)) (hs : cv.size = 5) (hX : ∀ o, ¬ XR X R fb o) (h4 : cv.getD 4 undef = .pointer (some ⟨fb, 0, none⟩))
    (h : ∀ k, k < 4 → VR Try.prog (XR X R) R W (([rpR da db cs, rpY l, .p 0 0 0, rpM m0 m1 m2 m3 m4 m5 m6 m7] : List AV).getD k .u) (cv.getD k undef)) :
    ∀ d, VR Try.prog (XR X R) R W (RP da db cs m0 m1 m2 m3 m4 m5 m6 m7 l d) (.pointer (some ⟨fb, 0, none⟩))
  | 0 => .u
  | d + 1 => by
    refine .rp (b := fb) (o := 0) (j := 0) (f := fun _ => .func (.func 59) #[] cv) (fun k hk => hX _) (by simp) ⟨rfl, fun j hj => ?_⟩ (fun k hk => ?_) (fun k hk => ?_)
    · have : j = 0 := by simp at hj; omega
      subst this
      exact .oth
    · have : k = 0 := by simp at hk; omega
      subst this
      exact hc
    · have : k = 0 := by simp at hk; omega
      subst this
      refine .fn hs fun k hk => ?_
      rcases Nat.lt_or_ge k 4 with g | g
      · have := h k g
        rcases k with _ | _ | _ | _ | k
        · exact this
        · exact this
        · exact this
        · exact this
        · omega
      · have : k = 4 := by simp at hk; omega
        subst this
        rw [h4]
        exact rp_chain hc hs hX h4 h d
end Go.Proofs.Ytfbfohkgajeopac

set_option maxRecDepth 100000
set_option linter.unusedVariables false
set_option linter.unusedSimpArgs false
namespace Go.Proofs.Ytfbfohkgajeopac
open Go Go.Ev Go.RowKit
variable {da db : Int} {cs : List (List AV)} {m0 m1 m2 m3 m4 m5 m6 m7 : Int}
theorem lokY (c : Code) (h : (match c with | .region _ _ _ => true | _ => false) = true) : LOK Try.prog S0 ro88 (fun _ _ => none) 0 true c [] := by
  split at h
  · trivial
  · cases h
theorem cells104 : Try.prog.cellsOf 98 = 8 := by kernel_rfl
theorem cells125 : Try.prog.cellsOf 121 = 1 := by kernel_rfl
theorem pat_con {lst : List (List AV)} {p' : List AV} (h : PT db cs [AV.i IntKind.i64 m0, AV.i IntKind.i64 m1, AV.i IntKind.i64 m2, AV.i IntKind.i64 m3, AV.i IntKind.i64 m4, AV.i IntKind.i64 m5, AV.i IntKind.i64 m6, AV.i IntKind.i64 m7] false 0 (IntKind.i64.wrap (da + db)) zero8 lst p') :
    SeqCon Try.prog 58 [rpR da db cs, rpM m0 m1 m2 m3 m4 m5 m6 m7] lst := by
  refine ⟨⟨Try.f58, Try.func58, names 58 _ Try.func58, by rw [body88]; rfl⟩, (h.plain fun k => ?_).1, ?_⟩
  · rcases k with _ | _ | _ | _ | _ | _ | _ | _ | k <;> exact (show IntKind.i64.min ≤ (0 : Int) ∧ (0 : Int) ≤ IntKind.i64.max from ⟨by decide, by decide⟩)
  intro X Y n w lb hX hYX hlb hcaps l J Jx hJ hJx hJ0 hyield
  refine callsIn_FW (calls_of_FW (ro := none) (n := 0) (callsIn_of_wp Try.func58 body88 trivial ?_))
  have h0 : SR Try.prog ⟨w, rowsOf none2, fun id => id < 0, w.heap.size, Nat.le_refl _⟩ (XR X none2) (XR X none2) none2 (initSt 14 [.yl l, rpR da db cs, rpM m0 m1 m2 m3 m4 m5 m6 m7] []) { tmps := (#[Value.func (.yield l) #[] #[]] ++ lb) ++ Array.replicate (14 - (#[Value.func (.yield l) #[] #[]] ++ lb).size) undef, defers := [] } w :=
    init_SR (rows := []) hX (fun _ _ => rfl) (fun _ _ _ e => by cases e) (fun _ _ _ _ _ e => by cases e) rfl (fun id hid => by simp at hid) (by simp at hlb; simp [hlb]) (show 3 ≤ 14 by decide) (fun k hk => by
      cases k with
      | zero =>
        have e : (#[Value.func (.yield l) #[] #[]] ++ lb).getD 0 undef = .func (.yield l) #[] #[] := by simp [Array.getD_eq_getD_getElem?, Array.getElem?_append]
        rw [e]
        exact .yl
      | succ k =>
        have := (hcaps k (by simp at hk ⊢; omega)).to_xr_none
        simpa [Array.getD_eq_getD_getElem?, Array.getElem?_append] using this)
  rw [bd88_eq]
  have hW := upY_eq da db cs m0 m1 m2 m3 m4 m5 m6 m7 l
  unfold upY at hW
  refine wpIn_seq (evC_sound S0_ok mixed y0 [] 0 true none 0 (lokY y0 (by kernel_rfl)) (fun h => by cases h) h0 (fun _ _ => rfl) (Nat.zero_le _) (fun i j hi hk => absurd hk (Nat.not_lt_zero _)) hW fun D1 R1 e1 s1 a1 w1 hS1 hF1 _ hd1 _ ht1 hK1 => ?_)
  cases e1 with
  | ext k => cases hK1
  | ret => cases hK1
  | nrm =>
  refine wpIn_seq (evC_sound S0_ok mixed y1 [] 0 true none 0 (lokY y1 (by kernel_rfl)) (fun h => by cases h) hS1 hF1 (Nat.zero_le _) (fun i j hi hk => absurd hk (Nat.not_lt_zero _)) hK1 fun D2 R2 e2 s2 a2 w2 hS2 hF2 _ hd2 _ ht2 hK2 => ?_)
  cases e2 with
  | ext k => cases hK2
  | ret => cases hK2
  | nrm =>
  refine wpIn_seq (evC_sound S0_ok mixed y2 [] 0 true none 0 (lokY y2 (by kernel_rfl)) (fun h => by cases h) hS2 hF2 (Nat.zero_le _) (fun i j hi hk => absurd hk (Nat.not_lt_zero _)) hK2 fun D3 R3 e3 s3 a3 w3 hS3 hF3 _ hd3 _ ht3 hK3 => ?_)
  cases e3 with
  | ext k => cases hK3
  | ret => cases hK3
  | nrm =>
  refine wpIn_seq (evC_sound S0_ok mixed y3 [] 0 true none 0 (lokY y3 (by kernel_rfl)) (fun h => by cases h) hS3 hF3 (Nat.zero_le _) (fun i j hi hk => absurd hk (Nat.not_lt_zero _)) hK3 fun D4 R4 e4 s4 a4 w4 hS4 hF4 _ hd4 _ ht4 hK4 => ?_)
  cases e4 with
  | ext k => cases hK4
  | ret => cases hK4
  | nrm =>
  show y4.wpIn (FW none) 0 Try.prog _ a4 w4
  rw [y4_eq]
  refine wpIn_region ?_
  rw [szY, show List.range 7 = List.range' 0 6 ++ [6] by decide]
  have hl : (opsY.toList.take 6).length = 6 := by simp [szY]
  obtain ⟨rest, hrest⟩ : ∃ rest : List Nat, rest = [6] := ⟨_, rfl⟩
  rw [← hrest, ← hl]
  refine evOpsB_cut S0_ok (opsY.toList.take 6) 0 (fun i hi => ?_) hS4 (by simpa using hF4) hK4 fun D R' s a W hS hF hRR hd _ hnt hK => ?_
  · rw [hl] at hi
    simp [List.getElem?_take, hi]
  simp only [Option.some.injEq, Prod.mk.injEq] at hK
  obtain ⟨k7, k12, kr1, kr2⟩ := hK
  have dfa : a.defers = [] := hd.trans ((hd4 rfl).trans ((hd3 rfl).trans ((hd2 rfl).trans (hd1 rfl))))
  -- where the rows lie
  have r1 := hS.mem 1
  rw [kr1] at r1
  have r2 := hS.mem 2
  rw [kr2] at r2
  obtain ⟨pb, c1, ty1, g1, hb1, _⟩ := r1 (by simp)
  obtain ⟨fb, c2, ty2, g2, hb2, _, _, _, _, hv2⟩ := r2 (by simp)
  rw [cells104] at g1
  rw [cells125] at g2
  have o1 := hS.own 1 pb _ g1 (by simp)
  have o2 := hS.own 2 fb _ g2 (by simp)
  have p1 : w.heap.size ≤ pb := by
    rcases o1.1 with g | ⟨_, g⟩
    · exact g
    · simp only at g; omega
  have p2 : w.heap.size ≤ fb := by
    rcases o2.1 with g | ⟨_, g⟩
    · exact g
    · simp only at g; omega
  have hne : fb ≠ pb := fun e => by
    subst e
    have := hS.inj 1 2 fb _ _ g1 g2 (by simp) (by simp) (by rw [kr1]; rfl) (by rw [kr2]; rfl)
    omega
  obtain ⟨R3', hR3⟩ : ∃ R3' : Nat → Option (Nat × Nat × Nat), R3' = fun id => if id = 0 then some (pb, 8, 0) else none := ⟨_, rfl⟩
  have E : Env l X Y R3' pb lst J Jx := ⟨by rw [hR3]; rfl, fun id hid => by rw [hR3]; exact if_neg (by omega), hYX, fun o hx => by have := hX _ _ hx; omega, hJ, hyield⟩
  have hsub : ∀ b o, XR X R3' b o → D b o := by
    rintro b o (hx | ⟨id, s, e⟩)
    · exact hS.X b o (.inl hx)
    · rw [hR3] at e
      simp only at e
      split at e
      · cases e
        exact hS.dom 1 pb _ o g1 (by rw [kr1]; trivial)
      · cases e
  have toD : ∀ {x : AV} {v : Value}, VR Try.prog D R3' W x v → VR Try.prog (XR X R3') R3' W x v := fun hv => hv.mono' (fun _ _ e => e) fun b o u hd hc => ⟨fun hx => hd (hsub b o hx), hc⟩
  have toX : ∀ {x : AV} {v : Value}, VR Try.prog D R' W x v → free Try.prog 0 x = true → VR Try.prog (XR X R3') R3' W x v := fun hv hf => toD (hv.free_any (nb := 0) (fun id y h => by omega) hf)
  have A : At l X R3' pb zero8 W := by
    refine ⟨fun b o hx => Nat.lt_of_lt_of_le (hX b o hx) hS.old.size, o1.2, ?_⟩
    exact (RowOK.free (nb := 0) (R' := R3') (id := 1) (id' := 0) (fun id y h => by omega) (fun y e => by rw [g1] at e; cases e; exact E.R0) r1 (by kernel_rfl)).mono rfl (fun _ _ _ _ => rfl) fun _ _ => toD
  -- the function's value
  have cap : ∀ v, VR Try.prog D R' W (fnY da db cs m0 m1 m2 m3 m4 m5 m6 m7 l) v → ∃ cv, v = .func (.func 59) #[] cv ∧ cv.size = 5 ∧ cv.getD 4 undef = .pointer (some ⟨fb, 0, none⟩) ∧
      ∀ k, k < 4 → VR Try.prog (XR X R3') R3' W (([rpR da db cs, rpY l, .p 0 0 0, rpM m0 m1 m2 m3 m4 m5 m6 m7] : List AV).getD k .u) (cv.getD k undef) := by
    intro v hv
    unfold fnY at hv
    cases hv with
    | @fn _ _ cv q1 q2 =>
      have t0 := q2 0 (by simp)
      have t1 := q2 1 (by simp)
      have t2 := q2 2 (by simp)
      have t3 := q2 3 (by simp)
      have t4 := q2 4 (by simp)
      simp only [List.getD_cons_zero, List.getD_cons_succ] at t0 t1 t2 t3 t4
      refine ⟨cv, rfl, q1, ?_, fun k hk => ?_⟩
      · generalize cv.getD 4 undef = u at t4
        cases t4 with
        | @p _ _ _ b sz hR =>
          rw [g2] at hR
          cases hR
          rfl
      · rcases k with _ | _ | _ | _ | k
        · exact toX t0 (by kernel_rfl)
        · exact toX t1 (by kernel_rfl)
        · show VR _ _ _ _ (.p 0 0 0) (cv.getD 2 undef)
          generalize cv.getD 2 undef = u at t2
          cases t2 with
          | @p _ _ _ b sz hR =>
            rw [g1] at hR
            cases hR
            exact .p E.R0
        · exact toX t3 (by kernel_rfl)
        · omega
  -- the box that holds it
  obtain ⟨vb, hvb, hvv⟩ := hv2 0 0 (by simp) (by rw [cells125]; decide)
  obtain ⟨cvb, rfl, b1, b2, b3⟩ := cap vb hvv
  have hcell : W.cell? ⟨fb, 0, none⟩ = some (.func (.func 59) #[] cvb) := by
    simp only [cells125, Nat.mul_one, Nat.add_zero] at hvb
    simp only [World.cell?, hb2]
    simpa using hvb
  have chain := rp_chain (da := da) (db := db) (cs := cs) (m0 := m0) (m1 := m1) (m2 := m2) (m3 := m3) (m4 := m4) (m5 := m5) (m6 := m6) (m7 := m7) (l := l) hcell b1 (fun o hx => by
    rcases hx with hx | ⟨id, s, e⟩
    · have := hX _ _ hx; omega
    · rw [hR3] at e
      simp only at e
      split at e
      · cases e; exact hne rfl
      · cases e) b2 b3
  have t7 := hS.tmp 7
  rw [k7] at t7
  obtain ⟨cv, hy, d1, d2, d3⟩ := cap _ t7
  have t12 := hS.tmp 12
  rw [k12] at t12
  rw [hrest]
  simp only [wpOpsIn, oY_at]
  rw [if_pos (by simp [Region.wanted, oY_g])]
  obtain ⟨fn, f1, f2, f3⟩ := tab89
  have hrec := rec89 (da := da) E h
  have hJ1 := hJ _ _ _ _ hJ0 (show BelowZ (fun _ => False) w W from ⟨hS.old.os, hS.old.tape, hS.old.output, hS.old.size, fun k hk _ => hS.old.block k hk (by rintro ⟨_, _, e⟩; cases e)⟩)
  refine enter_op oY_op rfl hy f1 f2 f3 (hrec W _ 0 _ A (by simp [d1]) (fun k hk => ?_) (.inr ⟨p1, o1.2⟩) hJ1 (fun q x hq => by simpa using hq)) fun e5 W5 he => ?_
  · have em : Array.map a.eval #[Operand.const (.int .i64 0), Operand.tmp 12] = #[.int .i64 0, a.tmps.getD 12 undef] := by simp [Act.eval]
    dsimp only
    rw [em]
    rcases k with _ | _ | k
    · rw [app2_0]; exact .i (by decide) (by decide)
    · rw [show 0 + 1 = 1 from rfl, app2_1]; exact toX t12 (by kernel_rfl)
    · rw [show k + 1 + 1 = k + 2 from rfl, app2_2]
      rcases Nat.lt_or_ge k 4 with g | g
      · have := d3 k g
        rcases k with _ | _ | _ | _ | k
        · exact this
        · exact this
        · exact this
        · exact this
        · omega
      · have : k = 4 := by omega
        subst this
        rw [d2]
        exact chain _
  · have fin : ∀ v : Value, (∃ v', Ending.returned v = .returned v') ∧ ((∃ Z, J Z lst.length W5) ∨ ∃ Z, Jx Z W5) → ∃ v', Ending.returned v = .returned v' ∧ wpOpsIn (FW none) 0 Try.prog opsY (bodyPost Try.prog Try.f58 fun e W' => (∃ v, e = .returned v) ∧ ((∃ Z, J Z lst.length W') ∨ ∃ Z, Jx Z W')) [] (a.put oY.dst v') W5 := by
      intro v hv
      refine ⟨v, rfl, (put_defers _ _ _).trans dfa, ?_⟩
      have hr : ∃ u, (results Try.f58 (a.put oY.dst v).tmps).run Try.prog W5 = .ok u W5 := by simp [results, res88]
      obtain ⟨u, hu⟩ := hr
      exact ⟨u, hu, ⟨u, rfl⟩, hv.2⟩
    rcases he with ⟨rfl, Z', _, hj, _⟩ | ⟨rfl, Z', hj⟩
    · exact fin _ ⟨⟨_, rfl⟩, .inl ⟨Z', by simpa using hj⟩⟩
    · exact fin _ ⟨⟨_, rfl⟩, .inr ⟨Z', hj⟩⟩
end Go.Proofs.Ytfbfohkgajeopac

set_option maxRecDepth 100000
set_option linter.unusedVariables false
namespace Go.Proofs.Ytfbfohkgajeopac
open Go Go.Ev
end Go.Proofs.Ytfbfohkgajeopac

set_option maxRecDepth 1000000
set_option maxHeartbeats 0
set_option linter.unusedVariables false
namespace Go.Proofs.Ytfbfohkgajeopac
open Go Go.Ev
def patF (db : Int) (cs : List (List AV)) (ms : List AV) : Nat → Bool → Nat → Int → List AV → Option (List (List AV) × List AV)
  | 0, _, _, _, _ => none
  | n + 1, false, j, room, X => cond (Nat.beq j cs.length) (some ([enc8 X], X)) (cond (Nat.blt j cs.length && Nat.blt j 8) (match patF db cs ms n true j room (setCs X j [.i .i64 0]) with
    | some (l, X') => some (l, setCs X' j [.i .i64 0])
    | none => none) none)
  | n + 1, true, j, room, X => cond (decide (fI X j ≤ fI ms j) && decide (room ≥ 0)) (match patF db cs ms n false (j + 1) room X with
    | some (l1, X1) => match patF db cs ms n true j (IntKind.i64.wrap (room - wid db cs j)) (setCs X1 j [.i .i64 (IntKind.i64.wrap (fI X1 j + 1))]) with
      | some (l2, X2) => some (l1 ++ l2, X2)
      | none => none
    | none => none) (some ([], X))
theorem patF_ok {db : Int} {cs : List (List AV)} {ms : List AV} : ∀ {n : Nat} {b : Bool} {j : Nat} {room : Int} {X X' : List AV} {l : List (List AV)}, patF db cs ms n b j room X = some (l, X') → PT db cs ms b j room X l X'
  | 0, _, _, _, _, _, _, h => by cases h
  | n + 1, false, j, room, X, X', l, h => by
    simp only [patF] at h
    cases hb : Nat.beq j cs.length with
    | true =>
      rw [hb] at h
      simp only [cond_true, Option.some.injEq, Prod.mk.injEq] at h
      obtain ⟨rfl, rfl⟩ := h
      rw [Nat.eq_of_beq_eq_true hb]
      exact .leaf
    | false =>
      rw [hb] at h
      simp only [cond_false] at h
      obtain ⟨hc, h⟩ := cond_some h
      simp only [Bool.and_eq_true, Nat.blt_eq] at hc
      split at h
      · rename_i l1 X1 h1
        simp only [Option.some.injEq, Prod.mk.injEq] at h
        obtain ⟨rfl, rfl⟩ := h
        exact .node hc.1 hc.2 (patF_ok h1)
      · cases h
  | n + 1, true, j, room, X, X', l, h => by
    simp only [patF] at h
    cases hb : (decide (fI X j ≤ fI ms j) && decide (room ≥ 0)) with
    | false =>
      rw [hb] at h
      simp only [cond_false, Option.some.injEq, Prod.mk.injEq] at h
      obtain ⟨rfl, rfl⟩ := h
      exact .stop hb
    | true =>
      rw [hb] at h
      simp only [cond_true] at h
      simp only [Bool.and_eq_true, decide_eq_true_eq] at hb
      split at h
      · rename_i l1 X1 h1
        split at h
        · rename_i l2 X2 h2
          simp only [Option.some.injEq, Prod.mk.injEq] at h
          obtain ⟨rfl, rfl⟩ := h
          exact .step hb.1 hb.2 (patF_ok h1) (patF_ok h2)
        · cases h
      · cases h
def its : ISpec := fun g caps => cond (Nat.beq g 58) (match caps with
  | [.rp [.int .i64, .int .i64, .sl 82] [.i .i64 da, .i .i64 db, .rs 82 cs] 0, .rp [.int .i64, .int .i64, .int .i64, .int .i64, .int .i64, .int .i64, .int .i64, .int .i64] [.i .i64 m0, .i .i64 m1, .i .i64 m2, .i .i64 m3, .i .i64 m4, .i .i64 m5, .i .i64 m6, .i .i64 m7] 0] =>
    match patF db cs [.i .i64 m0, .i .i64 m1, .i .i64 m2, .i .i64 m3, .i .i64 m4, .i .i64 m5, .i .i64 m6, .i .i64 m7] 100 false 0 (IntKind.i64.wrap (da + db)) zero8 with
    | some (l, _) => some l
    | none => none
  | _ => none) none
theorem its_ok : IOK Try.prog its := by
  intro g caps xs h
  unfold its at h
  obtain ⟨hg, h2⟩ := cond_some h
  clear h
  have hg := Nat.eq_of_beq_eq_true hg
  subst hg
  split at h2
  · split at h2
    · rename_i l X' h3
      cases h2
      exact pat_con (patF_ok h3)
    · cases h2
  · cases h2
noncomputable def SL : Ev.Spec := runS Try.prog its ro (fun _ _ _ => none) 300 5 12
theorem SL_ok : SpecOK Try.prog SL := runS_ok its_ok mixed names (fun _ _ _ _ _ _ h => by cases h) 12
theorem lives_eq : SL 5 [] [] = some (true, .b true, []) := by kernel_rfl
theorem lives_con : Con Try.prog 5 [] [] (.b true) [] := SL_ok _ _ _ _ _ _ lives_eq rfl
end Go.Proofs.Ytfbfohkgajeopac

set_option linter.unusedVariables false
namespace Go.Proofs.Ytfbfohkgajeopac
open Go Go.Ev
noncomputable def e19 (args : List AV) (rows : List Blk) : Option (Bool × AV × List Blk) := match args, rows with
  | [], [] => some (true, .b true, [])
  | _, _ => none
theorem e19_ok (args : List AV) (rows : List Blk) (pre : Bool) (v : AV) (rows' : List Blk) (h : e19 args rows = some (pre, v, rows')) (hp : pre = true) : Con Try.prog 5 args rows v rows' := by
  unfold e19 at h
  split at h
  · cases h; exact lives_con
  · cases h
-- SPEC 19
end Go.Proofs.Ytfbfohkgajeopac

set_option maxRecDepth 100000
set_option linter.unusedVariables false
namespace Go.Proofs.Ytfbfohkgajeopac
open Go Go.Ev
noncomputable def SN9 : Ev.Spec := insS 6 e6q (insS 11 e28 (insS 10 e40 (insS 9 e42 (insS 8 e34 (insS 7 e30 (insS 5 e19 (insS 4 e4n (S0))))))))
theorem SN9_ok : SpecOK Try.prog SN9 := insS_ok e6q_ok (insS_ok e28_ok (insS_ok e40_ok (insS_ok e42_ok (insS_ok e34_ok (insS_ok e30_ok (insS_ok e19_ok (insS_ok e4n_ok (S0_ok))))))))
def ro3 (t : Nat) : Bool := cond (Nat.beq t 1000033) false (ro 3 t)
end Go.Proofs.Ytfbfohkgajeopac
