/-
  The law RidgeFibonacci of the roofer's ridges answers true whatever byte it is handed; no conditions.
-/
import Derived.Test.YtgifjphinkbcaaaRc
set_option linter.unusedVariables false
set_option maxRecDepth 100000
set_option linter.unusedVariables false
namespace Go.Proofs.Ytgifjphinkbcaaa
open Go Go.Ev

/-! ### ridge.Check -/
noncomputable def c29 : Code := match Try.f29.body with | some c => c | _ => .skip
noncomputable def lp29a : Code := loopAt c29 [true, true, true, false, true, false]
noncomputable def s29a (ra : Int) (rb : Int) (rc : Int) (ps : List (List AV)) (t2 : Int) (t33 : List (List AV)) (t34 : Int) (t35 : Int) (m24 : List (AV × AV)) : St :=
  { t := [(1, .rp [.int .i64, .int .i64, .int .i64, .sl 31] [.i .i64 ra, .i .i64 rb, .i .i64 rc, .rs 31 ps] 0), (2, .i .i64 t2), (3, .mp 24), (33, .rs 31 t33), (34, .i .i64 t34), (35, .i .i64 t35)], m := [(0, .dead), (1, .dead), (2, .dead), (3, .dead), (4, .dead), (5, .dead), (6, .dead), (7, .dead), (8, .dead), (9, .dead), (10, .dead), (11, .dead), (12, .dead), (13, .dead), (14, .dead), (15, .dead), (16, .dead), (17, .dead), (18, .dead), (19, .dead), (20, .dead), (21, .dead), (22, .dead), (23, .dead), (24, .mp 9 4 m24)], nx := 25, nt := 104 }
structure S29a where
  t35 : Int
  m24 : List (AV × AV)
inductive T29a where
  | x0 (t2' : Int) (t35 : Int) (m24 : List (AV × AV))
  | x1 (t35 : Int) (m24 : List (AV × AV))
noncomputable def stp29a (ra : Int) (rb : Int) (rc : Int) (ps : List (List AV)) (t2 : Int) (t33 : List (List AV)) (t34 : Int) (t35 : Int) (m24 : List (AV × AV)) : Lp S29a T29a :=
  cond (decide (t35 < t34)) (cond (inb t35 t33.length) (cond (g61 (fS (t33.getD t35.toNat []) 0)) (cond (!w61_0 (fS (t33.getD t35.toNat []) 0)) (.out (.x0 5 t35 m24)) (cond (toB ((mget (AV.s (fS (t33.getD t35.toNat []) 0)) m24).getD (AV.b false))) (.out (.x0 6 t35 m24)) (cond (g55 (fI (t33.getD t35.toNat []) 1) 1 2000) (cond (!w55_0 (fI (t33.getD t35.toNat []) 1) 1 2000) (.out (.x0 1 t35 m24)) (cond (g55 (fI (t33.getD t35.toNat []) 2) 0 9) (cond (!w55_0 (fI (t33.getD t35.toNat []) 2) 0 9) (.out (.x0 1 t35 m24)) (cond (g55 (fI (t33.getD t35.toNat []) 3) 0 9) (cond (!w55_0 (fI (t33.getD t35.toNat []) 3) 0 9) (.out (.x0 1 t35 m24)) (.go ⟨IntKind.i64.wrap (t35 + 1), mset (AV.s (fS (t33.getD t35.toNat []) 0)) (AV.b true) m24⟩)) (.bad))) (.bad))) (.bad)))) (.bad)) (.bad)) (.out (.x1 t35 m24))
noncomputable def o29a_0 (ra : Int) (rb : Int) (rc : Int) (ps : List (List AV)) (t2 : Int) (t33 : List (List AV)) (t34 : Int) (t2' : Int) (t35 : Int) (m24 : List (AV × AV)) : St :=
  { t := [(1, .rp [.int .i64, .int .i64, .int .i64, .sl 31] [.i .i64 ra, .i .i64 rb, .i .i64 rc, .rs 31 ps] 0), (2, .i .i64 t2'), (3, .mp 24), (33, .rs 31 t33), (34, .i .i64 t34), (35, .i .i64 t35)], m := [(0, .dead), (1, .dead), (2, .dead), (3, .dead), (4, .dead), (5, .dead), (6, .dead), (7, .dead), (8, .dead), (9, .dead), (10, .dead), (11, .dead), (12, .dead), (13, .dead), (14, .dead), (15, .dead), (16, .dead), (17, .dead), (18, .dead), (19, .dead), (20, .dead), (21, .dead), (22, .dead), (23, .dead), (24, .mp 9 4 m24)], nx := 25, nt := 104 }
noncomputable def o29a_1 (ra : Int) (rb : Int) (rc : Int) (ps : List (List AV)) (t2 : Int) (t33 : List (List AV)) (t34 : Int) (t35 : Int) (m24 : List (AV × AV)) : St :=
  { t := [(1, .rp [.int .i64, .int .i64, .int .i64, .sl 31] [.i .i64 ra, .i .i64 rb, .i .i64 rc, .rs 31 ps] 0), (2, .i .i64 t2), (3, .mp 24), (33, .rs 31 t33), (34, .i .i64 t34), (35, .i .i64 t35)], m := [(0, .dead), (1, .dead), (2, .dead), (3, .dead), (4, .dead), (5, .dead), (6, .dead), (7, .dead), (8, .dead), (9, .dead), (10, .dead), (11, .dead), (12, .dead), (13, .dead), (14, .dead), (15, .dead), (16, .dead), (17, .dead), (18, .dead), (19, .dead), (20, .dead), (21, .dead), (22, .dead), (23, .dead), (24, .mp 9 4 m24)], nx := 25, nt := 104 }
noncomputable def ou29a (ra : Int) (rb : Int) (rc : Int) (ps : List (List AV)) (t2 : Int) (t33 : List (List AV)) (t34 : Int) : T29a → Ex × St
  | .x0 t2' t35 m24 => (.ret, o29a_0 ra rb rc ps t2 t33 t34 t2' t35 m24)
  | .x1 t35 m24 => (.ext 1, o29a_1 ra rb rc ps t2 t33 t34 t35 m24)
noncomputable def r29a (ra : Int) (rb : Int) (rc : Int) (ps : List (List AV)) (t2 : Int) (t33 : List (List AV)) (t34 : Int) (t35 : Int) (m24 : List (AV × AV)) : Option T29a := run (fun x => stp29a ra rb rc ps t2 t33 t34 x.t35 x.m24) (⟨t35, m24⟩ : S29a)
noncomputable def i29a_0 (ra : Int) (rb : Int) (rc : Int) (ps : List (List AV)) (t2 : Int) (t33 : List (List AV)) (t34 : Int) (t35 : Int) (m24 : List (AV × AV)) : Bool := match r29a ra rb rc ps t2 t33 t34 t35 m24 with
  | some (.x0 _ _ _) => true
  | _ => false
noncomputable def v29a_0_t2' (ra : Int) (rb : Int) (rc : Int) (ps : List (List AV)) (t2 : Int) (t33 : List (List AV)) (t34 : Int) (t35 : Int) (m24 : List (AV × AV)) : Int := match r29a ra rb rc ps t2 t33 t34 t35 m24 with
  | some (.x0 t2' _ _) => t2'
  | _ => default
noncomputable def v29a_0_t35 (ra : Int) (rb : Int) (rc : Int) (ps : List (List AV)) (t2 : Int) (t33 : List (List AV)) (t34 : Int) (t35 : Int) (m24 : List (AV × AV)) : Int := match r29a ra rb rc ps t2 t33 t34 t35 m24 with
  | some (.x0 _ t35 _) => t35
  | _ => default
noncomputable def v29a_0_m24 (ra : Int) (rb : Int) (rc : Int) (ps : List (List AV)) (t2 : Int) (t33 : List (List AV)) (t34 : Int) (t35 : Int) (m24 : List (AV × AV)) : List (AV × AV) := match r29a ra rb rc ps t2 t33 t34 t35 m24 with
  | some (.x0 _ _ m24) => m24
  | _ => default
noncomputable def i29a_1 (ra : Int) (rb : Int) (rc : Int) (ps : List (List AV)) (t2 : Int) (t33 : List (List AV)) (t34 : Int) (t35 : Int) (m24 : List (AV × AV)) : Bool := match r29a ra rb rc ps t2 t33 t34 t35 m24 with
  | some (.x1 _ _) => true
  | _ => false
noncomputable def v29a_1_t35 (ra : Int) (rb : Int) (rc : Int) (ps : List (List AV)) (t2 : Int) (t33 : List (List AV)) (t34 : Int) (t35 : Int) (m24 : List (AV × AV)) : Int := match r29a ra rb rc ps t2 t33 t34 t35 m24 with
  | some (.x1 t35 _) => t35
  | _ => default
noncomputable def v29a_1_m24 (ra : Int) (rb : Int) (rc : Int) (ps : List (List AV)) (t2 : Int) (t33 : List (List AV)) (t34 : Int) (t35 : Int) (m24 : List (AV × AV)) : List (AV × AV) := match r29a ra rb rc ps t2 t33 t34 t35 m24 with
  | some (.x1 _ m24) => m24
  | _ => default
noncomputable def l29a (st : St) : Option (List (Bool × Ex × St)) := match normW Try.prog [(1, none), (2, none), (3, none), (33, none), (34, none), (35, none)] 25 st with
  | some ([.rp [.int .i64, .int .i64, .int .i64, .sl 31] [.i .i64 ra, .i .i64 rb, .i .i64 rc, .rs 31 ps] 0, .i .i64 t2, .mp 24, .rs 31 t33, .i .i64 t34, .i .i64 t35], (0, .dead) :: (1, .dead) :: (2, .dead) :: (3, .dead) :: (4, .dead) :: (5, .dead) :: (6, .dead) :: (7, .dead) :: (8, .dead) :: (9, .dead) :: (10, .dead) :: (11, .dead) :: (12, .dead) :: (13, .dead) :: (14, .dead) :: (15, .dead) :: (16, .dead) :: (17, .dead) :: (18, .dead) :: (19, .dead) :: (20, .dead) :: (21, .dead) :: (22, .dead) :: (23, .dead) :: (24, .mp 9 4 m24) :: [], 25, 104) => some [(i29a_0 ra rb rc ps t2 t33 t34 t35 m24, .ret, o29a_0 ra rb rc ps t2 t33 t34 (v29a_0_t2' ra rb rc ps t2 t33 t34 t35 m24) (v29a_0_t35 ra rb rc ps t2 t33 t34 t35 m24) (v29a_0_m24 ra rb rc ps t2 t33 t34 t35 m24)), (i29a_1 ra rb rc ps t2 t33 t34 t35 m24, .ext 1, o29a_1 ra rb rc ps t2 t33 t34 (v29a_1_t35 ra rb rc ps t2 t33 t34 t35 m24) (v29a_1_m24 ra rb rc ps t2 t33 t34 t35 m24))]
  | _ => none
noncomputable def lp29b : Code := loopAt c29 [true, true, true, true, false, true, false]
noncomputable def s29b (ra : Int) (rb : Int) (rc : Int) (ps : List (List AV)) (t2 : Int) (t71 : List (List AV)) (t72 : Int) (t73 : Int) : St :=
  { t := [(1, .rp [.int .i64, .int .i64, .int .i64, .sl 31] [.i .i64 ra, .i .i64 rb, .i .i64 rc, .rs 31 ps] 0), (2, .i .i64 t2), (71, .rs 31 t71), (72, .i .i64 t72), (73, .i .i64 t73)], m := [], nx := 0, nt := 104 }
structure S29b where
  t73 : Int
inductive T29b where
  | x0 (t2' : Int) (t73 : Int)
  | x1 (t73 : Int)
noncomputable def stp29b (ra : Int) (rb : Int) (rc : Int) (ps : List (List AV)) (t2 : Int) (t71 : List (List AV)) (t72 : Int) (t73 : Int) : Lp S29b T29b :=
  cond (decide (t73 < t72)) (cond (inb t73 t71.length) (cond (g55 (fI (t71.getD t73.toNat []) 4) 0 (IntKind.i64.wrap ((↑ps.length : Int) - 1))) (cond (!w55_0 (fI (t71.getD t73.toNat []) 4) 0 (IntKind.i64.wrap ((↑ps.length : Int) - 1))) (.out (.x0 7 t73)) (cond (inb (fI (t71.getD t73.toNat []) 4) ps.length) (cond (fI (ps.getD (fI (t71.getD t73.toNat []) 4).toNat []) 4 != t73) (.out (.x0 10 t73)) (cond (!((w62_0 (fS (ps.getD (fI (t71.getD t73.toNat []) 4).toNat []) 0) (fI (ps.getD (fI (t71.getD t73.toNat []) 4).toNat []) 1) (fI (ps.getD (fI (t71.getD t73.toNat []) 4).toNat []) 2) (fI (ps.getD (fI (t71.getD t73.toNat []) 4).toNat []) 3) (fI (ps.getD (fI (t71.getD t73.toNat []) 4).toNat []) 4)).toList == (w63_0 (fS (t71.getD t73.toNat []) 0) (fI (t71.getD t73.toNat []) 1) (fI (t71.getD t73.toNat []) 2) (fI (t71.getD t73.toNat []) 3) (fI (t71.getD t73.toNat []) 4)).toList && (w62_1 (fS (ps.getD (fI (t71.getD t73.toNat []) 4).toNat []) 0) (fI (ps.getD (fI (t71.getD t73.toNat []) 4).toNat []) 1) (fI (ps.getD (fI (t71.getD t73.toNat []) 4).toNat []) 2) (fI (ps.getD (fI (t71.getD t73.toNat []) 4).toNat []) 3) (fI (ps.getD (fI (t71.getD t73.toNat []) 4).toNat []) 4) == w63_1 (fS (t71.getD t73.toNat []) 0) (fI (t71.getD t73.toNat []) 1) (fI (t71.getD t73.toNat []) 2) (fI (t71.getD t73.toNat []) 3) (fI (t71.getD t73.toNat []) 4) && (w62_2 (fS (ps.getD (fI (t71.getD t73.toNat []) 4).toNat []) 0) (fI (ps.getD (fI (t71.getD t73.toNat []) 4).toNat []) 1) (fI (ps.getD (fI (t71.getD t73.toNat []) 4).toNat []) 2) (fI (ps.getD (fI (t71.getD t73.toNat []) 4).toNat []) 3) (fI (ps.getD (fI (t71.getD t73.toNat []) 4).toNat []) 4) == w63_2 (fS (t71.getD t73.toNat []) 0) (fI (t71.getD t73.toNat []) 1) (fI (t71.getD t73.toNat []) 2) (fI (t71.getD t73.toNat []) 3) (fI (t71.getD t73.toNat []) 4) && (w62_3 (fS (ps.getD (fI (t71.getD t73.toNat []) 4).toNat []) 0) (fI (ps.getD (fI (t71.getD t73.toNat []) 4).toNat []) 1) (fI (ps.getD (fI (t71.getD t73.toNat []) 4).toNat []) 2) (fI (ps.getD (fI (t71.getD t73.toNat []) 4).toNat []) 3) (fI (ps.getD (fI (t71.getD t73.toNat []) 4).toNat []) 4) == w63_3 (fS (t71.getD t73.toNat []) 0) (fI (t71.getD t73.toNat []) 1) (fI (t71.getD t73.toNat []) 2) (fI (t71.getD t73.toNat []) 3) (fI (t71.getD t73.toNat []) 4) && w62_4 (fS (ps.getD (fI (t71.getD t73.toNat []) 4).toNat []) 0) (fI (ps.getD (fI (t71.getD t73.toNat []) 4).toNat []) 1) (fI (ps.getD (fI (t71.getD t73.toNat []) 4).toNat []) 2) (fI (ps.getD (fI (t71.getD t73.toNat []) 4).toNat []) 3) (fI (ps.getD (fI (t71.getD t73.toNat []) 4).toNat []) 4) == w63_4 (fS (t71.getD t73.toNat []) 0) (fI (t71.getD t73.toNat []) 1) (fI (t71.getD t73.toNat []) 2) (fI (t71.getD t73.toNat []) 3) (fI (t71.getD t73.toNat []) 4)))))) (.out (.x0 10 t73)) (.go ⟨IntKind.i64.wrap (t73 + 1)⟩))) (.bad))) (.bad)) (.bad)) (.out (.x1 t73))
noncomputable def o29b_0 (ra : Int) (rb : Int) (rc : Int) (ps : List (List AV)) (t2 : Int) (t71 : List (List AV)) (t72 : Int) (t2' : Int) (t73 : Int) : St :=
  { t := [(1, .rp [.int .i64, .int .i64, .int .i64, .sl 31] [.i .i64 ra, .i .i64 rb, .i .i64 rc, .rs 31 ps] 0), (2, .i .i64 t2'), (71, .rs 31 t71), (72, .i .i64 t72), (73, .i .i64 t73)], m := [], nx := 0, nt := 104 }
noncomputable def o29b_1 (ra : Int) (rb : Int) (rc : Int) (ps : List (List AV)) (t2 : Int) (t71 : List (List AV)) (t72 : Int) (t73 : Int) : St :=
  { t := [(1, .rp [.int .i64, .int .i64, .int .i64, .sl 31] [.i .i64 ra, .i .i64 rb, .i .i64 rc, .rs 31 ps] 0), (2, .i .i64 t2), (71, .rs 31 t71), (72, .i .i64 t72), (73, .i .i64 t73)], m := [], nx := 0, nt := 104 }
noncomputable def ou29b (ra : Int) (rb : Int) (rc : Int) (ps : List (List AV)) (t2 : Int) (t71 : List (List AV)) (t72 : Int) : T29b → Ex × St
  | .x0 t2' t73 => (.ret, o29b_0 ra rb rc ps t2 t71 t72 t2' t73)
  | .x1 t73 => (.ext 4, o29b_1 ra rb rc ps t2 t71 t72 t73)
noncomputable def r29b (ra : Int) (rb : Int) (rc : Int) (ps : List (List AV)) (t2 : Int) (t71 : List (List AV)) (t72 : Int) (t73 : Int) : Option T29b := run (fun x => stp29b ra rb rc ps t2 t71 t72 x.t73) (⟨t73⟩ : S29b)
noncomputable def i29b_0 (ra : Int) (rb : Int) (rc : Int) (ps : List (List AV)) (t2 : Int) (t71 : List (List AV)) (t72 : Int) (t73 : Int) : Bool := match r29b ra rb rc ps t2 t71 t72 t73 with
  | some (.x0 _ _) => true
  | _ => false
noncomputable def v29b_0_t2' (ra : Int) (rb : Int) (rc : Int) (ps : List (List AV)) (t2 : Int) (t71 : List (List AV)) (t72 : Int) (t73 : Int) : Int := match r29b ra rb rc ps t2 t71 t72 t73 with
  | some (.x0 t2' _) => t2'
  | _ => default
noncomputable def v29b_0_t73 (ra : Int) (rb : Int) (rc : Int) (ps : List (List AV)) (t2 : Int) (t71 : List (List AV)) (t72 : Int) (t73 : Int) : Int := match r29b ra rb rc ps t2 t71 t72 t73 with
  | some (.x0 _ t73) => t73
  | _ => default
noncomputable def i29b_1 (ra : Int) (rb : Int) (rc : Int) (ps : List (List AV)) (t2 : Int) (t71 : List (List AV)) (t72 : Int) (t73 : Int) : Bool := match r29b ra rb rc ps t2 t71 t72 t73 with
  | some (.x1 _) => true
  | _ => false
noncomputable def v29b_1_t73 (ra : Int) (rb : Int) (rc : Int) (ps : List (List AV)) (t2 : Int) (t71 : List (List AV)) (t72 : Int) (t73 : Int) : Int := match r29b ra rb rc ps t2 t71 t72 t73 with
  | some (.x1 t73) => t73
  | _ => default
noncomputable def l29b (st : St) : Option (List (Bool × Ex × St)) := match normW Try.prog [(1, none), (2, none), (71, none), (72, none), (73, none)] 0 st with
  | some ([.rp [.int .i64, .int .i64, .int .i64, .sl 31] [.i .i64 ra, .i .i64 rb, .i .i64 rc, .rs 31 ps] 0, .i .i64 t2, .rs 31 t71, .i .i64 t72, .i .i64 t73], [], 0, 104) => some [(i29b_0 ra rb rc ps t2 t71 t72 t73, .ret, o29b_0 ra rb rc ps t2 t71 t72 (v29b_0_t2' ra rb rc ps t2 t71 t72 t73) (v29b_0_t73 ra rb rc ps t2 t71 t72 t73)), (i29b_1 ra rb rc ps t2 t71 t72 t73, .ext 4, o29b_1 ra rb rc ps t2 t71 t72 (v29b_1_t73 ra rb rc ps t2 t71 t72 t73))]
  | _ => none
noncomputable def L29 : LSpec := fun p st => match p with
  | [false, true, false, true, true, true] => l29a st
  | [false, true, false, true, true, true, true] => l29b st
  | _ => none
theorem is29a_0 (ra : Int) (rb : Int) (rc : Int) (ps : List (List AV)) (t2 : Int) (t33 : List (List AV)) (t34 : Int) (t35 : Int) (m24 : List (AV × AV)) (h : i29a_0 ra rb rc ps t2 t33 t34 t35 m24 = true) : r29a ra rb rc ps t2 t33 t34 t35 m24 = some (.x0 (v29a_0_t2' ra rb rc ps t2 t33 t34 t35 m24) (v29a_0_t35 ra rb rc ps t2 t33 t34 t35 m24) (v29a_0_m24 ra rb rc ps t2 t33 t34 t35 m24)) := by
  unfold i29a_0 at h
  unfold v29a_0_t2' v29a_0_t35 v29a_0_m24
  generalize r29a ra rb rc ps t2 t33 t34 t35 m24 = r at h ⊢
  rcases r with _ | y
  · cases h
  · cases y <;> first | rfl | cases h
theorem is29a_1 (ra : Int) (rb : Int) (rc : Int) (ps : List (List AV)) (t2 : Int) (t33 : List (List AV)) (t34 : Int) (t35 : Int) (m24 : List (AV × AV)) (h : i29a_1 ra rb rc ps t2 t33 t34 t35 m24 = true) : r29a ra rb rc ps t2 t33 t34 t35 m24 = some (.x1 (v29a_1_t35 ra rb rc ps t2 t33 t34 t35 m24) (v29a_1_m24 ra rb rc ps t2 t33 t34 t35 m24)) := by
  unfold i29a_1 at h
  unfold v29a_1_t35 v29a_1_m24
  generalize r29a ra rb rc ps t2 t33 t34 t35 m24 = r at h ⊢
  rcases r with _ | y
  · cases h
  · cases y <;> first | rfl | cases h
theorem round29a (ra : Int) (rb : Int) (rc : Int) (ps : List (List AV)) (t2 : Int) (t33 : List (List AV)) (t34 : Int) (t35 : Int) (m24 : List (AV × AV)) : round Try.prog Se (ro 29) L29 lp29a [false, true, false, true, true, true] [(1, none), (2, none), (3, none), (33, none), (34, none), (35, none)] 25 (s29a ra rb rc ps t2 t33 t34 t35 m24) =
    cond (decide (t35 < t34)) (cond (inb t35 t33.length) (cond (g61 (fS (t33.getD t35.toNat []) 0)) (cond (!w61_0 (fS (t33.getD t35.toNat []) 0)) (some (.ret, o29a_0 ra rb rc ps t2 t33 t34 5 t35 m24)) (cond (toB ((mget (AV.s (fS (t33.getD t35.toNat []) 0)) m24).getD (AV.b false))) (some (.ret, o29a_0 ra rb rc ps t2 t33 t34 6 t35 m24)) (cond (g55 (fI (t33.getD t35.toNat []) 1) 1 2000) (cond (!w55_0 (fI (t33.getD t35.toNat []) 1) 1 2000) (some (.ret, o29a_0 ra rb rc ps t2 t33 t34 1 t35 m24)) (cond (g55 (fI (t33.getD t35.toNat []) 2) 0 9) (cond (!w55_0 (fI (t33.getD t35.toNat []) 2) 0 9) (some (.ret, o29a_0 ra rb rc ps t2 t33 t34 1 t35 m24)) (cond (g55 (fI (t33.getD t35.toNat []) 3) 0 9) (cond (!w55_0 (fI (t33.getD t35.toNat []) 3) 0 9) (some (.ret, o29a_0 ra rb rc ps t2 t33 t34 1 t35 m24)) (some (.nrm, s29a ra rb rc ps t2 t33 t34 (IntKind.i64.wrap (t35 + 1)) (mset (AV.s (fS (t33.getD t35.toNat []) 0)) (AV.b true) m24)))) (none))) (none))) (none)))) (none)) (none)) (some (.ext 1, o29a_1 ra rb rc ps t2 t33 t34 t35 m24)) := by kernel_rfl
theorem rnd29a (ra : Int) (rb : Int) (rc : Int) (ps : List (List AV)) (t2 : Int) (t33 : List (List AV)) (t34 : Int) (x : S29a) : round Try.prog Se (ro 29) L29 lp29a [false, true, false, true, true, true] [(1, none), (2, none), (3, none), (33, none), (34, none), (35, none)] 25 ((fun x => s29a ra rb rc ps t2 t33 t34 x.t35 x.m24) x) = toR (fun x => s29a ra rb rc ps t2 t33 t34 x.t35 x.m24) (ou29a ra rb rc ps t2 t33 t34) (stp29a ra rb rc ps t2 t33 t34 x.t35 x.m24) := by
  refine (round29a _ _ _ _ _ _ _ _ _ ).trans ?_
  unfold stp29a
  simp only [toR_cond]
  rfl
theorem lok29a {st : St} {outs : List (Bool × Ex × St)} {e : Ex} {s : St} (hl : l29a st = some outs) (hch : Chosen outs e s) :
    ∃ keep nb, 0 ≤ nb ∧ LB Try.prog Se (ro 29) L29 lp29a [false, true, false, true, true, true] keep nb st e s := by
  unfold l29a at hl
  split at hl
  · rename_i ra rb rc ps t2 t33 t34 t35 m24 hno
    cases hl
    have hno := normW_norm hno
    refine ⟨_, _, ?_, .enter hno ?_⟩
    · decide
    have main := fun y h => LB_run (x := (⟨t35, m24⟩ : S29a)) (y := y) (nb := 25) (fun y => by cases y <;> simp [ou29a]) (rnd29a ra rb rc ps t2 t33 t34) h
    obtain ⟨x, hx, hg, rfl, rfl⟩ := chosen_any hch
    simp only [List.mem_cons, List.not_mem_nil, or_false] at hx
    rcases hx with rfl | rfl
    · exact main _ (is29a_0 ra rb rc ps t2 t33 t34 t35 m24 hg)
    · exact main _ (is29a_1 ra rb rc ps t2 t33 t34 t35 m24 hg)
  · cases hl
theorem is29b_0 (ra : Int) (rb : Int) (rc : Int) (ps : List (List AV)) (t2 : Int) (t71 : List (List AV)) (t72 : Int) (t73 : Int) (h : i29b_0 ra rb rc ps t2 t71 t72 t73 = true) : r29b ra rb rc ps t2 t71 t72 t73 = some (.x0 (v29b_0_t2' ra rb rc ps t2 t71 t72 t73) (v29b_0_t73 ra rb rc ps t2 t71 t72 t73)) := by
  unfold i29b_0 at h
  unfold v29b_0_t2' v29b_0_t73
  generalize r29b ra rb rc ps t2 t71 t72 t73 = r at h ⊢
  rcases r with _ | y
  · cases h
  · cases y <;> first | rfl | cases h
theorem is29b_1 (ra : Int) (rb : Int) (rc : Int) (ps : List (List AV)) (t2 : Int) (t71 : List (List AV)) (t72 : Int) (t73 : Int) (h : i29b_1 ra rb rc ps t2 t71 t72 t73 = true) : r29b ra rb rc ps t2 t71 t72 t73 = some (.x1 (v29b_1_t73 ra rb rc ps t2 t71 t72 t73)) := by
  unfold i29b_1 at h
  unfold v29b_1_t73
  generalize r29b ra rb rc ps t2 t71 t72 t73 = r at h ⊢
  rcases r with _ | y
  · cases h
  · cases y <;> first | rfl | cases h
theorem round29b (ra : Int) (rb : Int) (rc : Int) (ps : List (List AV)) (t2 : Int) (t71 : List (List AV)) (t72 : Int) (t73 : Int) : round Try.prog Se (ro 29) L29 lp29b [false, true, false, true, true, true, true] [(1, none), (2, none), (71, none), (72, none), (73, none)] 0 (s29b ra rb rc ps t2 t71 t72 t73) =
    cond (decide (t73 < t72)) (cond (inb t73 t71.length) (cond (g55 (fI (t71.getD t73.toNat []) 4) 0 (IntKind.i64.wrap ((↑ps.length : Int) - 1))) (cond (!w55_0 (fI (t71.getD t73.toNat []) 4) 0 (IntKind.i64.wrap ((↑ps.length : Int) - 1))) (some (.ret, o29b_0 ra rb rc ps t2 t71 t72 7 t73)) (cond (inb (fI (t71.getD t73.toNat []) 4) ps.length) (cond (fI (ps.getD (fI (t71.getD t73.toNat []) 4).toNat []) 4 != t73) (some (.ret, o29b_0 ra rb rc ps t2 t71 t72 10 t73)) (cond (!((w62_0 (fS (ps.getD (fI (t71.getD t73.toNat []) 4).toNat []) 0) (fI (ps.getD (fI (t71.getD t73.toNat []) 4).toNat []) 1) (fI (ps.getD (fI (t71.getD t73.toNat []) 4).toNat []) 2) (fI (ps.getD (fI (t71.getD t73.toNat []) 4).toNat []) 3) (fI (ps.getD (fI (t71.getD t73.toNat []) 4).toNat []) 4)).toList == (w63_0 (fS (t71.getD t73.toNat []) 0) (fI (t71.getD t73.toNat []) 1) (fI (t71.getD t73.toNat []) 2) (fI (t71.getD t73.toNat []) 3) (fI (t71.getD t73.toNat []) 4)).toList && (w62_1 (fS (ps.getD (fI (t71.getD t73.toNat []) 4).toNat []) 0) (fI (ps.getD (fI (t71.getD t73.toNat []) 4).toNat []) 1) (fI (ps.getD (fI (t71.getD t73.toNat []) 4).toNat []) 2) (fI (ps.getD (fI (t71.getD t73.toNat []) 4).toNat []) 3) (fI (ps.getD (fI (t71.getD t73.toNat []) 4).toNat []) 4) == w63_1 (fS (t71.getD t73.toNat []) 0) (fI (t71.getD t73.toNat []) 1) (fI (t71.getD t73.toNat []) 2) (fI (t71.getD t73.toNat []) 3) (fI (t71.getD t73.toNat []) 4) && (w62_2 (fS (ps.getD (fI (t71.getD t73.toNat []) 4).toNat []) 0) (fI (ps.getD (fI (t71.getD t73.toNat []) 4).toNat []) 1) (fI (ps.getD (fI (t71.getD t73.toNat []) 4).toNat []) 2) (fI (ps.getD (fI (t71.getD t73.toNat []) 4).toNat []) 3) (fI (ps.getD (fI (t71.getD t73.toNat []) 4).toNat []) 4) == w63_2 (fS (t71.getD t73.toNat []) 0) (fI (t71.getD t73.toNat []) 1) (fI (t71.getD t73.toNat []) 2) (fI (t71.getD t73.toNat []) 3) (fI (t71.getD t73.toNat []) 4) && (w62_3 (fS (ps.getD (fI (t71.getD t73.toNat []) 4).toNat []) 0) (fI (ps.getD (fI (t71.getD t73.toNat []) 4).toNat []) 1) (fI (ps.getD (fI (t71.getD t73.toNat []) 4).toNat []) 2) (fI (ps.getD (fI (t71.getD t73.toNat []) 4).toNat []) 3) (fI (ps.getD (fI (t71.getD t73.toNat []) 4).toNat []) 4) == w63_3 (fS (t71.getD t73.toNat []) 0) (fI (t71.getD t73.toNat []) 1) (fI (t71.getD t73.toNat []) 2) (fI (t71.getD t73.toNat []) 3) (fI (t71.getD t73.toNat []) 4) && w62_4 (fS (ps.getD (fI (t71.getD t73.toNat []) 4).toNat []) 0) (fI (ps.getD (fI (t71.getD t73.toNat []) 4).toNat []) 1) (fI (ps.getD (fI (t71.getD t73.toNat []) 4).toNat []) 2) (fI (ps.getD (fI (t71.getD t73.toNat []) 4).toNat []) 3) (fI (ps.getD (fI (t71.getD t73.toNat []) 4).toNat []) 4) == w63_4 (fS (t71.getD t73.toNat []) 0) (fI (t71.getD t73.toNat []) 1) (fI (t71.getD t73.toNat []) 2) (fI (t71.getD t73.toNat []) 3) (fI (t71.getD t73.toNat []) 4)))))) (some (.ret, o29b_0 ra rb rc ps t2 t71 t72 10 t73)) (some (.nrm, s29b ra rb rc ps t2 t71 t72 (IntKind.i64.wrap (t73 + 1)))))) (none))) (none)) (none)) (some (.ext 4, o29b_1 ra rb rc ps t2 t71 t72 t73)) := by kernel_rfl
theorem rnd29b (ra : Int) (rb : Int) (rc : Int) (ps : List (List AV)) (t2 : Int) (t71 : List (List AV)) (t72 : Int) (x : S29b) : round Try.prog Se (ro 29) L29 lp29b [false, true, false, true, true, true, true] [(1, none), (2, none), (71, none), (72, none), (73, none)] 0 ((fun x => s29b ra rb rc ps t2 t71 t72 x.t73) x) = toR (fun x => s29b ra rb rc ps t2 t71 t72 x.t73) (ou29b ra rb rc ps t2 t71 t72) (stp29b ra rb rc ps t2 t71 t72 x.t73) := by
  refine (round29b _ _ _ _ _ _ _ _ ).trans ?_
  unfold stp29b
  simp only [toR_cond]
  rfl
theorem lok29b {st : St} {outs : List (Bool × Ex × St)} {e : Ex} {s : St} (hl : l29b st = some outs) (hch : Chosen outs e s) :
    ∃ keep nb, 0 ≤ nb ∧ LB Try.prog Se (ro 29) L29 lp29b [false, true, false, true, true, true, true] keep nb st e s := by
  unfold l29b at hl
  split at hl
  · rename_i ra rb rc ps t2 t71 t72 t73 hno
    cases hl
    have hno := normW_norm hno
    refine ⟨_, _, ?_, .enter hno ?_⟩
    · decide
    have main := fun y h => LB_run (x := (⟨t73⟩ : S29b)) (y := y) (nb := 0) (fun y => by cases y <;> simp [ou29b]) (rnd29b ra rb rc ps t2 t71 t72) h
    obtain ⟨x, hx, hg, rfl, rfl⟩ := chosen_any hch
    simp only [List.mem_cons, List.not_mem_nil, or_false] at hx
    rcases hx with rfl | rfl
    · exact main _ (is29b_0 ra rb rc ps t2 t71 t72 t73 hg)
    · exact main _ (is29b_1 ra rb rc ps t2 t71 t72 t73 hg)
  · cases hl
theorem L29_ok (q : Pl) (c : Code) (hq : locate c29 q.reverse = some (.loop c)) (st : St) (outs : List (Bool × Ex × St)) (e : Ex) (s : St) (hl : L29 q st = some outs) (hch : Chosen outs e s) :
    ∃ keep nb, 0 ≤ nb ∧ LB Try.prog Se (ro 29) L29 c q keep nb st e s := by
  unfold L29 at hl
  split at hl
  · have : locate c29 ([false, true, false, true, true, true] : Pl).reverse = some (.loop lp29a) := by kernel_rfl
    rw [this] at hq
    cases hq
    exact lok29a hl hch
  · have : locate c29 ([false, true, false, true, true, true, true] : Pl).reverse = some (.loop lp29b) := by kernel_rfl
    rw [this] at hq
    cases hq
    exact lok29b hl hch
  · cases hl
theorem lok29 : LOK Try.prog Se (ro 29) L29 0 false c29 [] :=
  lok_lo L29_ok c29 [] false (locate_nil _) (by kernel_rfl)
noncomputable def t29 (ra rb rc : Int) (ps : List (List AV)) : Tr ((Int)) :=
  .cn (g55 ra 0 2000) (.cn (!w55_0 ra 0 2000) (.lf (1)) (.cn (g55 rb 0 9) (.cn (!w55_0 rb 0 9) (.lf (1)) (.cn (g55 rc 0 9) (.cn (!w55_0 rc 0 9) (.lf (1)) (.cn (decide ((↑ps.length : Int) > 10)) (.lf (3)) (.cn (i29a_0 ra rb rc ps 0 ps (↑ps.length : Int) 0 []) (.lf (v29a_0_t2' ra rb rc ps 0 ps (↑ps.length : Int) 0 [])) (.cn (i29a_1 ra rb rc ps 0 ps (↑ps.length : Int) 0 []) (.cn (i29b_0 ra rb rc ps 0 ps (↑ps.length : Int) 0) (.lf (v29b_0_t2' ra rb rc ps 0 ps (↑ps.length : Int) 0)) (.cn (i29b_1 ra rb rc ps 0 ps (↑ps.length : Int) 0) (.lf (0)) (.nn))) (.nn))))) (.nn))) (.nn))) (.nn)
noncomputable def g29 (ra rb rc : Int) (ps : List (List AV)) : Bool := (t29 ra rb rc ps).g
noncomputable def w29_0 (ra rb rc : Int) (ps : List (List AV)) : Int := (t29 ra rb rc ps).val
theorem eq29 (ra rb rc : Int) (ps : List (List AV)) : evF Try.prog Se (ro 29) L29 Try.f29 [.agg [.i .i64 ra, .i .i64 rb, .i .i64 rc, .rs 31 ps]] = (t29 ra rb rc ps).opt (fun (x : (Int)) => (.i .i64 x : AV)) := by kernel_rfl
theorem con29 (ra rb rc : Int) (ps : List (List AV)) (h : g29 ra rb rc ps = true) : Con Try.prog 29 [.agg [.i .i64 ra, .i .i64 rb, .i .i64 rc, .rs 31 ps]] [] (.i .i64 (w29_0 ra rb rc ps)) [] :=
  con_of Se_ok mixed Try.func29 (c := c29) rfl (names 29 _ Try.func29) lok29 ((eq29 ra rb rc ps).trans (Tr.sound _ _ h))
noncomputable def e29 (args : List AV) (rows : List Blk) : Option (Bool × AV × List Blk) := match args, rows with
  | [.agg [.i .i64 ra, .i .i64 rb, .i .i64 rc, .rs 31 ps]], [] => some (g29 ra rb rc ps, .i .i64 (w29_0 ra rb rc ps), [])
  | _, _ => none
theorem e29_ok (args : List AV) (rows : List Blk) (pre : Bool) (v : AV) (rows' : List Blk) (h : e29 args rows = some (pre, v, rows')) (hp : pre = true) : Con Try.prog 29 args rows v rows' := by
  unfold e29 at h
  split at h
  · cases h; exact con29 _ _ _ _ hp
  · cases h
-- SPEC 29
end Go.Proofs.Ytgifjphinkbcaaa

set_option maxRecDepth 100000
set_option linter.unusedVariables false
namespace Go.Proofs.Ytgifjphinkbcaaa
open Go Go.Ev

/-! ### ref.Check -/
noncomputable def c33 : Code := match Try.f33.body with | some c => c | _ => .skip
noncomputable def lp33a : Code := loopAt c33 [true, true, true, false, true, false]
noncomputable def s33a (ra : Int) (rb : Int) (rc : Int) (ps : List (List AV)) (t2 : Int) (t3 : Int) : St :=
  { t := [(1, .rp [.int .i64, .int .i64, .int .i64, .sl 31] [.i .i64 ra, .i .i64 rb, .i .i64 rc, .rs 31 ps] 0), (2, .i .i64 t2), (3, .i .i64 t3)], m := [], nx := 0, nt := 126 }
noncomputable def lp33aa : Code := loopAt c33 [true, true, true, false, true, false, false, true, false, false, true, true, false, true, false]
noncomputable def s33aa (ra : Int) (rb : Int) (rc : Int) (ps : List (List AV)) (t2 : Int) (t3 : Int) (t5 : Int) (m10_0 : ByteArray) (m10_1 : Int) (m10_2 : Int) (m10_3 : Int) (m10_4 : Int) : St :=
  { t := [(1, .rp [.int .i64, .int .i64, .int .i64, .sl 31] [.i .i64 ra, .i .i64 rb, .i .i64 rc, .rs 31 ps] 0), (2, .i .i64 t2), (3, .i .i64 t3), (4, .p 10 0 0), (5, .i .i64 t5)], m := [(0, .dead), (1, .dead), (2, .dead), (3, .dead), (4, .dead), (5, .dead), (6, .dead), (7, .dead), (8, .dead), (9, .dead), (10, .row 31 [[.s m10_0, .i .i64 m10_1, .i .i64 m10_2, .i .i64 m10_3, .i .i64 m10_4]])], nx := 11, nt := 126 }
structure S33aa where
  t5 : Int
inductive T33aa where
  | x0 (t2' : Int) (t5 : Int)
  | x1 (t5 : Int)
noncomputable def stp33aa (ra : Int) (rb : Int) (rc : Int) (ps : List (List AV)) (t2 : Int) (t3 : Int) (m10_0 : ByteArray) (m10_1 : Int) (m10_2 : Int) (m10_3 : Int) (m10_4 : Int) (t5 : Int) : Lp S33aa T33aa :=
  cond (decide (t5 < t3)) (cond (inb t5 ps.length) (cond ((fS (ps.getD t5.toNat []) 0).toList == m10_0.toList) (.out (.x0 6 t5)) (.go ⟨IntKind.i64.wrap (t5 + 1)⟩)) (.bad)) (.out (.x1 t5))
noncomputable def o33aa_0 (ra : Int) (rb : Int) (rc : Int) (ps : List (List AV)) (t2 : Int) (t3 : Int) (m10_0 : ByteArray) (m10_1 : Int) (m10_2 : Int) (m10_3 : Int) (m10_4 : Int) (t2' : Int) (t5 : Int) : St :=
  { t := [(1, .rp [.int .i64, .int .i64, .int .i64, .sl 31] [.i .i64 ra, .i .i64 rb, .i .i64 rc, .rs 31 ps] 0), (2, .i .i64 t2'), (3, .i .i64 t3), (4, .p 10 0 0), (5, .i .i64 t5)], m := [(0, .dead), (1, .dead), (2, .dead), (3, .dead), (4, .dead), (5, .dead), (6, .dead), (7, .dead), (8, .dead), (9, .dead), (10, .row 31 [[.s m10_0, .i .i64 m10_1, .i .i64 m10_2, .i .i64 m10_3, .i .i64 m10_4]])], nx := 11, nt := 126 }
noncomputable def o33aa_1 (ra : Int) (rb : Int) (rc : Int) (ps : List (List AV)) (t2 : Int) (t3 : Int) (m10_0 : ByteArray) (m10_1 : Int) (m10_2 : Int) (m10_3 : Int) (m10_4 : Int) (t5 : Int) : St :=
  { t := [(1, .rp [.int .i64, .int .i64, .int .i64, .sl 31] [.i .i64 ra, .i .i64 rb, .i .i64 rc, .rs 31 ps] 0), (2, .i .i64 t2), (3, .i .i64 t3), (4, .p 10 0 0), (5, .i .i64 t5)], m := [(0, .dead), (1, .dead), (2, .dead), (3, .dead), (4, .dead), (5, .dead), (6, .dead), (7, .dead), (8, .dead), (9, .dead), (10, .row 31 [[.s m10_0, .i .i64 m10_1, .i .i64 m10_2, .i .i64 m10_3, .i .i64 m10_4]])], nx := 11, nt := 126 }
noncomputable def ou33aa (ra : Int) (rb : Int) (rc : Int) (ps : List (List AV)) (t2 : Int) (t3 : Int) (m10_0 : ByteArray) (m10_1 : Int) (m10_2 : Int) (m10_3 : Int) (m10_4 : Int) : T33aa → Ex × St
  | .x0 t2' t5 => (.ret, o33aa_0 ra rb rc ps t2 t3 m10_0 m10_1 m10_2 m10_3 m10_4 t2' t5)
  | .x1 t5 => (.ext 2, o33aa_1 ra rb rc ps t2 t3 m10_0 m10_1 m10_2 m10_3 m10_4 t5)
noncomputable def r33aa (ra : Int) (rb : Int) (rc : Int) (ps : List (List AV)) (t2 : Int) (t3 : Int) (m10_0 : ByteArray) (m10_1 : Int) (m10_2 : Int) (m10_3 : Int) (m10_4 : Int) (t5 : Int) : Option T33aa := run (fun x => stp33aa ra rb rc ps t2 t3 m10_0 m10_1 m10_2 m10_3 m10_4 x.t5) (⟨t5⟩ : S33aa)
noncomputable def i33aa_0 (ra : Int) (rb : Int) (rc : Int) (ps : List (List AV)) (t2 : Int) (t3 : Int) (m10_0 : ByteArray) (m10_1 : Int) (m10_2 : Int) (m10_3 : Int) (m10_4 : Int) (t5 : Int) : Bool := match r33aa ra rb rc ps t2 t3 m10_0 m10_1 m10_2 m10_3 m10_4 t5 with
  | some (.x0 _ _) => true
  | _ => false
noncomputable def v33aa_0_t2' (ra : Int) (rb : Int) (rc : Int) (ps : List (List AV)) (t2 : Int) (t3 : Int) (m10_0 : ByteArray) (m10_1 : Int) (m10_2 : Int) (m10_3 : Int) (m10_4 : Int) (t5 : Int) : Int := match r33aa ra rb rc ps t2 t3 m10_0 m10_1 m10_2 m10_3 m10_4 t5 with
  | some (.x0 t2' _) => t2'
  | _ => default
noncomputable def v33aa_0_t5 (ra : Int) (rb : Int) (rc : Int) (ps : List (List AV)) (t2 : Int) (t3 : Int) (m10_0 : ByteArray) (m10_1 : Int) (m10_2 : Int) (m10_3 : Int) (m10_4 : Int) (t5 : Int) : Int := match r33aa ra rb rc ps t2 t3 m10_0 m10_1 m10_2 m10_3 m10_4 t5 with
  | some (.x0 _ t5) => t5
  | _ => default
noncomputable def i33aa_1 (ra : Int) (rb : Int) (rc : Int) (ps : List (List AV)) (t2 : Int) (t3 : Int) (m10_0 : ByteArray) (m10_1 : Int) (m10_2 : Int) (m10_3 : Int) (m10_4 : Int) (t5 : Int) : Bool := match r33aa ra rb rc ps t2 t3 m10_0 m10_1 m10_2 m10_3 m10_4 t5 with
  | some (.x1 _) => true
  | _ => false
noncomputable def v33aa_1_t5 (ra : Int) (rb : Int) (rc : Int) (ps : List (List AV)) (t2 : Int) (t3 : Int) (m10_0 : ByteArray) (m10_1 : Int) (m10_2 : Int) (m10_3 : Int) (m10_4 : Int) (t5 : Int) : Int := match r33aa ra rb rc ps t2 t3 m10_0 m10_1 m10_2 m10_3 m10_4 t5 with
  | some (.x1 t5) => t5
  | _ => default
noncomputable def l33aa (st : St) : Option (List (Bool × Ex × St)) := match normW Try.prog [(1, none), (2, none), (3, none), (4, none), (5, none)] 11 st with
  | some ([.rp [.int .i64, .int .i64, .int .i64, .sl 31] [.i .i64 ra, .i .i64 rb, .i .i64 rc, .rs 31 ps] 0, .i .i64 t2, .i .i64 t3, .p 10 0 0, .i .i64 t5], [(0, .dead), (1, .dead), (2, .dead), (3, .dead), (4, .dead), (5, .dead), (6, .dead), (7, .dead), (8, .dead), (9, .dead), (10, .row 31 [[.s m10_0, .i .i64 m10_1, .i .i64 m10_2, .i .i64 m10_3, .i .i64 m10_4]])], 11, 126) => some [(i33aa_0 ra rb rc ps t2 t3 m10_0 m10_1 m10_2 m10_3 m10_4 t5, .ret, o33aa_0 ra rb rc ps t2 t3 m10_0 m10_1 m10_2 m10_3 m10_4 (v33aa_0_t2' ra rb rc ps t2 t3 m10_0 m10_1 m10_2 m10_3 m10_4 t5) (v33aa_0_t5 ra rb rc ps t2 t3 m10_0 m10_1 m10_2 m10_3 m10_4 t5)), (i33aa_1 ra rb rc ps t2 t3 m10_0 m10_1 m10_2 m10_3 m10_4 t5, .ext 2, o33aa_1 ra rb rc ps t2 t3 m10_0 m10_1 m10_2 m10_3 m10_4 (v33aa_1_t5 ra rb rc ps t2 t3 m10_0 m10_1 m10_2 m10_3 m10_4 t5))]
  | _ => none
structure S33a where
  t3 : Int
inductive T33a where
  | x0 (t2' : Int) (t3 : Int)
  | x1 (t3 : Int)
noncomputable def stp33a (ra : Int) (rb : Int) (rc : Int) (ps : List (List AV)) (t2 : Int) (t3 : Int) : Lp S33a T33a :=
  cond (decide (t3 < (↑ps.length : Int))) (cond (inb t3 ps.length) (cond (g66 (fS (ps.getD t3.toNat []) 0)) (cond (!w66_0 (fS (ps.getD t3.toNat []) 0)) (.out (.x0 5 t3)) (cond (i33aa_0 ra rb rc ps t2 t3 (fS (ps.getD t3.toNat []) 0) (fI (ps.getD t3.toNat []) 1) (fI (ps.getD t3.toNat []) 2) (fI (ps.getD t3.toNat []) 3) (fI (ps.getD t3.toNat []) 4) 0) (.out (.x0 (v33aa_0_t2' ra rb rc ps t2 t3 (fS (ps.getD t3.toNat []) 0) (fI (ps.getD t3.toNat []) 1) (fI (ps.getD t3.toNat []) 2) (fI (ps.getD t3.toNat []) 3) (fI (ps.getD t3.toNat []) 4) 0) t3)) (cond (i33aa_1 ra rb rc ps t2 t3 (fS (ps.getD t3.toNat []) 0) (fI (ps.getD t3.toNat []) 1) (fI (ps.getD t3.toNat []) 2) (fI (ps.getD t3.toNat []) 3) (fI (ps.getD t3.toNat []) 4) 0) (cond (g57 (fI (ps.getD t3.toNat []) 1) 1 2000) (cond (!w57_0 (fI (ps.getD t3.toNat []) 1) 1 2000) (.out (.x0 1 t3)) (cond (g57 (fI (ps.getD t3.toNat []) 2) 0 9) (cond (!w57_0 (fI (ps.getD t3.toNat []) 2) 0 9) (.out (.x0 1 t3)) (cond (g57 (fI (ps.getD t3.toNat []) 3) 0 9) (cond (!w57_0 (fI (ps.getD t3.toNat []) 3) 0 9) (.out (.x0 1 t3)) (.go ⟨IntKind.i64.wrap (t3 + 1)⟩)) (.bad))) (.bad))) (.bad)) (.bad)))) (.bad)) (.bad)) (.out (.x1 t3))
noncomputable def o33a_0 (ra : Int) (rb : Int) (rc : Int) (ps : List (List AV)) (t2 : Int) (t2' : Int) (t3 : Int) : St :=
  { t := [(1, .rp [.int .i64, .int .i64, .int .i64, .sl 31] [.i .i64 ra, .i .i64 rb, .i .i64 rc, .rs 31 ps] 0), (2, .i .i64 t2'), (3, .i .i64 t3)], m := [], nx := 0, nt := 126 }
noncomputable def o33a_1 (ra : Int) (rb : Int) (rc : Int) (ps : List (List AV)) (t2 : Int) (t3 : Int) : St :=
  { t := [(1, .rp [.int .i64, .int .i64, .int .i64, .sl 31] [.i .i64 ra, .i .i64 rb, .i .i64 rc, .rs 31 ps] 0), (2, .i .i64 t2), (3, .i .i64 t3)], m := [], nx := 0, nt := 126 }
noncomputable def ou33a (ra : Int) (rb : Int) (rc : Int) (ps : List (List AV)) (t2 : Int) : T33a → Ex × St
  | .x0 t2' t3 => (.ret, o33a_0 ra rb rc ps t2 t2' t3)
  | .x1 t3 => (.ext 0, o33a_1 ra rb rc ps t2 t3)
noncomputable def r33a (ra : Int) (rb : Int) (rc : Int) (ps : List (List AV)) (t2 : Int) (t3 : Int) : Option T33a := run (fun x => stp33a ra rb rc ps t2 x.t3) (⟨t3⟩ : S33a)
noncomputable def i33a_0 (ra : Int) (rb : Int) (rc : Int) (ps : List (List AV)) (t2 : Int) (t3 : Int) : Bool := match r33a ra rb rc ps t2 t3 with
  | some (.x0 _ _) => true
  | _ => false
noncomputable def v33a_0_t2' (ra : Int) (rb : Int) (rc : Int) (ps : List (List AV)) (t2 : Int) (t3 : Int) : Int := match r33a ra rb rc ps t2 t3 with
  | some (.x0 t2' _) => t2'
  | _ => default
noncomputable def v33a_0_t3 (ra : Int) (rb : Int) (rc : Int) (ps : List (List AV)) (t2 : Int) (t3 : Int) : Int := match r33a ra rb rc ps t2 t3 with
  | some (.x0 _ t3) => t3
  | _ => default
noncomputable def i33a_1 (ra : Int) (rb : Int) (rc : Int) (ps : List (List AV)) (t2 : Int) (t3 : Int) : Bool := match r33a ra rb rc ps t2 t3 with
  | some (.x1 _) => true
  | _ => false
noncomputable def v33a_1_t3 (ra : Int) (rb : Int) (rc : Int) (ps : List (List AV)) (t2 : Int) (t3 : Int) : Int := match r33a ra rb rc ps t2 t3 with
  | some (.x1 t3) => t3
  | _ => default
noncomputable def l33a (st : St) : Option (List (Bool × Ex × St)) := match normW Try.prog [(1, none), (2, none), (3, none)] 0 st with
  | some ([.rp [.int .i64, .int .i64, .int .i64, .sl 31] [.i .i64 ra, .i .i64 rb, .i .i64 rc, .rs 31 ps] 0, .i .i64 t2, .i .i64 t3], [], 0, 126) => some [(i33a_0 ra rb rc ps t2 t3, .ret, o33a_0 ra rb rc ps t2 (v33a_0_t2' ra rb rc ps t2 t3) (v33a_0_t3 ra rb rc ps t2 t3)), (i33a_1 ra rb rc ps t2 t3, .ext 0, o33a_1 ra rb rc ps t2 (v33a_1_t3 ra rb rc ps t2 t3))]
  | _ => none
noncomputable def lp33b : Code := loopAt c33 [true, true, true, true, false, true, false]
noncomputable def s33b (ra : Int) (rb : Int) (rc : Int) (ps : List (List AV)) (t2 : Int) (t6 : Int) : St :=
  { t := [(1, .rp [.int .i64, .int .i64, .int .i64, .sl 31] [.i .i64 ra, .i .i64 rb, .i .i64 rc, .rs 31 ps] 0), (2, .i .i64 t2), (6, .i .i64 t6)], m := [], nx := 0, nt := 126 }
structure S33b where
  t6 : Int
inductive T33b where
  | x0 (t2' : Int) (t6 : Int)
  | x1 (t6 : Int)
noncomputable def stp33b (ra : Int) (rb : Int) (rc : Int) (ps : List (List AV)) (t2 : Int) (t6 : Int) : Lp S33b T33b :=
  cond (decide (t6 < (↑ps.length : Int))) (cond (inb t6 ps.length) (cond (g57 (fI (ps.getD t6.toNat []) 4) 0 (IntKind.i64.wrap ((↑ps.length : Int) - 1))) (cond (!w57_0 (fI (ps.getD t6.toNat []) 4) 0 (IntKind.i64.wrap ((↑ps.length : Int) - 1))) (.out (.x0 7 t6)) (cond (inb (fI (ps.getD t6.toNat []) 4) ps.length) (cond (fI (ps.getD (fI (ps.getD t6.toNat []) 4).toNat []) 4 != t6) (.out (.x0 10 t6)) (cond (fI (ps.getD (fI (ps.getD t6.toNat []) 4).toNat []) 1 != fI (ps.getD t6.toNat []) 1) (.out (.x0 10 t6)) (cond (fI (ps.getD (fI (ps.getD t6.toNat []) 4).toNat []) 2 != fI (ps.getD t6.toNat []) 3) (.out (.x0 10 t6)) (cond (fI (ps.getD (fI (ps.getD t6.toNat []) 4).toNat []) 3 != fI (ps.getD t6.toNat []) 2) (.out (.x0 10 t6)) (.go ⟨IntKind.i64.wrap (t6 + 1)⟩))))) (.bad))) (.bad)) (.bad)) (.out (.x1 t6))
noncomputable def o33b_0 (ra : Int) (rb : Int) (rc : Int) (ps : List (List AV)) (t2 : Int) (t2' : Int) (t6 : Int) : St :=
  { t := [(1, .rp [.int .i64, .int .i64, .int .i64, .sl 31] [.i .i64 ra, .i .i64 rb, .i .i64 rc, .rs 31 ps] 0), (2, .i .i64 t2'), (6, .i .i64 t6)], m := [], nx := 0, nt := 126 }
noncomputable def o33b_1 (ra : Int) (rb : Int) (rc : Int) (ps : List (List AV)) (t2 : Int) (t6 : Int) : St :=
  { t := [(1, .rp [.int .i64, .int .i64, .int .i64, .sl 31] [.i .i64 ra, .i .i64 rb, .i .i64 rc, .rs 31 ps] 0), (2, .i .i64 t2), (6, .i .i64 t6)], m := [], nx := 0, nt := 126 }
noncomputable def ou33b (ra : Int) (rb : Int) (rc : Int) (ps : List (List AV)) (t2 : Int) : T33b → Ex × St
  | .x0 t2' t6 => (.ret, o33b_0 ra rb rc ps t2 t2' t6)
  | .x1 t6 => (.ext 4, o33b_1 ra rb rc ps t2 t6)
noncomputable def r33b (ra : Int) (rb : Int) (rc : Int) (ps : List (List AV)) (t2 : Int) (t6 : Int) : Option T33b := run (fun x => stp33b ra rb rc ps t2 x.t6) (⟨t6⟩ : S33b)
noncomputable def i33b_0 (ra : Int) (rb : Int) (rc : Int) (ps : List (List AV)) (t2 : Int) (t6 : Int) : Bool := match r33b ra rb rc ps t2 t6 with
  | some (.x0 _ _) => true
  | _ => false
noncomputable def v33b_0_t2' (ra : Int) (rb : Int) (rc : Int) (ps : List (List AV)) (t2 : Int) (t6 : Int) : Int := match r33b ra rb rc ps t2 t6 with
  | some (.x0 t2' _) => t2'
  | _ => default
noncomputable def v33b_0_t6 (ra : Int) (rb : Int) (rc : Int) (ps : List (List AV)) (t2 : Int) (t6 : Int) : Int := match r33b ra rb rc ps t2 t6 with
  | some (.x0 _ t6) => t6
  | _ => default
noncomputable def i33b_1 (ra : Int) (rb : Int) (rc : Int) (ps : List (List AV)) (t2 : Int) (t6 : Int) : Bool := match r33b ra rb rc ps t2 t6 with
  | some (.x1 _) => true
  | _ => false
noncomputable def v33b_1_t6 (ra : Int) (rb : Int) (rc : Int) (ps : List (List AV)) (t2 : Int) (t6 : Int) : Int := match r33b ra rb rc ps t2 t6 with
  | some (.x1 t6) => t6
  | _ => default
noncomputable def l33b (st : St) : Option (List (Bool × Ex × St)) := match normW Try.prog [(1, none), (2, none), (6, none)] 0 st with
  | some ([.rp [.int .i64, .int .i64, .int .i64, .sl 31] [.i .i64 ra, .i .i64 rb, .i .i64 rc, .rs 31 ps] 0, .i .i64 t2, .i .i64 t6], [], 0, 126) => some [(i33b_0 ra rb rc ps t2 t6, .ret, o33b_0 ra rb rc ps t2 (v33b_0_t2' ra rb rc ps t2 t6) (v33b_0_t6 ra rb rc ps t2 t6)), (i33b_1 ra rb rc ps t2 t6, .ext 4, o33b_1 ra rb rc ps t2 (v33b_1_t6 ra rb rc ps t2 t6))]
  | _ => none
noncomputable def L33 : LSpec := fun p st => match p with
  | [false, true, false, true, true, false, false, true, false, false, true, false, true, true, true] => l33aa st
  | [false, true, false, true, true, true] => l33a st
  | [false, true, false, true, true, true, true] => l33b st
  | _ => none
theorem is33aa_0 (ra : Int) (rb : Int) (rc : Int) (ps : List (List AV)) (t2 : Int) (t3 : Int) (m10_0 : ByteArray) (m10_1 : Int) (m10_2 : Int) (m10_3 : Int) (m10_4 : Int) (t5 : Int) (h : i33aa_0 ra rb rc ps t2 t3 m10_0 m10_1 m10_2 m10_3 m10_4 t5 = true) : r33aa ra rb rc ps t2 t3 m10_0 m10_1 m10_2 m10_3 m10_4 t5 = some (.x0 (v33aa_0_t2' ra rb rc ps t2 t3 m10_0 m10_1 m10_2 m10_3 m10_4 t5) (v33aa_0_t5 ra rb rc ps t2 t3 m10_0 m10_1 m10_2 m10_3 m10_4 t5)) := by
  unfold i33aa_0 at h
  unfold v33aa_0_t2' v33aa_0_t5
  generalize r33aa ra rb rc ps t2 t3 m10_0 m10_1 m10_2 m10_3 m10_4 t5 = r at h ⊢
  rcases r with _ | y
  · cases h
  · cases y <;> first | rfl | cases h
theorem is33aa_1 (ra : Int) (rb : Int) (rc : Int) (ps : List (List AV)) (t2 : Int) (t3 : Int) (m10_0 : ByteArray) (m10_1 : Int) (m10_2 : Int) (m10_3 : Int) (m10_4 : Int) (t5 : Int) (h : i33aa_1 ra rb rc ps t2 t3 m10_0 m10_1 m10_2 m10_3 m10_4 t5 = true) : r33aa ra rb rc ps t2 t3 m10_0 m10_1 m10_2 m10_3 m10_4 t5 = some (.x1 (v33aa_1_t5 ra rb rc ps t2 t3 m10_0 m10_1 m10_2 m10_3 m10_4 t5)) := by
  unfold i33aa_1 at h
  unfold v33aa_1_t5
  generalize r33aa ra rb rc ps t2 t3 m10_0 m10_1 m10_2 m10_3 m10_4 t5 = r at h ⊢
  rcases r with _ | y
  · cases h
  · cases y <;> first | rfl | cases h
theorem round33aa (ra : Int) (rb : Int) (rc : Int) (ps : List (List AV)) (t2 : Int) (t3 : Int) (t5 : Int) (m10_0 : ByteArray) (m10_1 : Int) (m10_2 : Int) (m10_3 : Int) (m10_4 : Int) : round Try.prog Se (ro 33) L33 lp33aa [false, true, false, true, true, false, false, true, false, false, true, false, true, true, true] [(1, none), (2, none), (3, none), (4, none), (5, none)] 11 (s33aa ra rb rc ps t2 t3 t5 m10_0 m10_1 m10_2 m10_3 m10_4) =
    cond (decide (t5 < t3)) (cond (inb t5 ps.length) (cond ((fS (ps.getD t5.toNat []) 0).toList == m10_0.toList) (some (.ret, o33aa_0 ra rb rc ps t2 t3 m10_0 m10_1 m10_2 m10_3 m10_4 6 t5)) (some (.nrm, s33aa ra rb rc ps t2 t3 (IntKind.i64.wrap (t5 + 1)) m10_0 m10_1 m10_2 m10_3 m10_4))) (none)) (some (.ext 2, o33aa_1 ra rb rc ps t2 t3 m10_0 m10_1 m10_2 m10_3 m10_4 t5)) := by kernel_rfl
theorem rnd33aa (ra : Int) (rb : Int) (rc : Int) (ps : List (List AV)) (t2 : Int) (t3 : Int) (m10_0 : ByteArray) (m10_1 : Int) (m10_2 : Int) (m10_3 : Int) (m10_4 : Int) (x : S33aa) : round Try.prog Se (ro 33) L33 lp33aa [false, true, false, true, true, false, false, true, false, false, true, false, true, true, true] [(1, none), (2, none), (3, none), (4, none), (5, none)] 11 ((fun x => s33aa ra rb rc ps t2 t3 x.t5 m10_0 m10_1 m10_2 m10_3 m10_4) x) = toR (fun x => s33aa ra rb rc ps t2 t3 x.t5 m10_0 m10_1 m10_2 m10_3 m10_4) (ou33aa ra rb rc ps t2 t3 m10_0 m10_1 m10_2 m10_3 m10_4) (stp33aa ra rb rc ps t2 t3 m10_0 m10_1 m10_2 m10_3 m10_4 x.t5) := by
  refine (round33aa _ _ _ _ _ _ _ _ _ _ _ _ ).trans ?_
  unfold stp33aa
  simp only [toR_cond]
  rfl
theorem lok33aa {st : St} {outs : List (Bool × Ex × St)} {e : Ex} {s : St} (hl : l33aa st = some outs) (hch : Chosen outs e s) :
    ∃ keep nb, 0 ≤ nb ∧ LB Try.prog Se (ro 33) L33 lp33aa [false, true, false, true, true, false, false, true, false, false, true, false, true, true, true] keep nb st e s := by
  unfold l33aa at hl
  split at hl
  · rename_i ra rb rc ps t2 t3 t5 m10_0 m10_1 m10_2 m10_3 m10_4 hno
    cases hl
    have hno := normW_norm hno
    refine ⟨_, _, ?_, .enter hno ?_⟩
    · decide
    have main := fun y h => LB_run (x := (⟨t5⟩ : S33aa)) (y := y) (nb := 11) (fun y => by cases y <;> simp [ou33aa]) (rnd33aa ra rb rc ps t2 t3 m10_0 m10_1 m10_2 m10_3 m10_4) h
    obtain ⟨x, hx, hg, rfl, rfl⟩ := chosen_any hch
    simp only [List.mem_cons, List.not_mem_nil, or_false] at hx
    rcases hx with rfl | rfl
    · exact main _ (is33aa_0 ra rb rc ps t2 t3 m10_0 m10_1 m10_2 m10_3 m10_4 t5 hg)
    · exact main _ (is33aa_1 ra rb rc ps t2 t3 m10_0 m10_1 m10_2 m10_3 m10_4 t5 hg)
  · cases hl
theorem is33a_0 (ra : Int) (rb : Int) (rc : Int) (ps : List (List AV)) (t2 : Int) (t3 : Int) (h : i33a_0 ra rb rc ps t2 t3 = true) : r33a ra rb rc ps t2 t3 = some (.x0 (v33a_0_t2' ra rb rc ps t2 t3) (v33a_0_t3 ra rb rc ps t2 t3)) := by
  unfold i33a_0 at h
  unfold v33a_0_t2' v33a_0_t3
  generalize r33a ra rb rc ps t2 t3 = r at h ⊢
  rcases r with _ | y
  · cases h
  · cases y <;> first | rfl | cases h
theorem is33a_1 (ra : Int) (rb : Int) (rc : Int) (ps : List (List AV)) (t2 : Int) (t3 : Int) (h : i33a_1 ra rb rc ps t2 t3 = true) : r33a ra rb rc ps t2 t3 = some (.x1 (v33a_1_t3 ra rb rc ps t2 t3)) := by
  unfold i33a_1 at h
  unfold v33a_1_t3
  generalize r33a ra rb rc ps t2 t3 = r at h ⊢
  rcases r with _ | y
  · cases h
  · cases y <;> first | rfl | cases h
theorem round33a (ra : Int) (rb : Int) (rc : Int) (ps : List (List AV)) (t2 : Int) (t3 : Int) : round Try.prog Se (ro 33) L33 lp33a [false, true, false, true, true, true] [(1, none), (2, none), (3, none)] 0 (s33a ra rb rc ps t2 t3) =
    cond (decide (t3 < (↑ps.length : Int))) (cond (inb t3 ps.length) (cond (g66 (fS (ps.getD t3.toNat []) 0)) (cond (!w66_0 (fS (ps.getD t3.toNat []) 0)) (some (.ret, o33a_0 ra rb rc ps t2 5 t3)) (cond (i33aa_0 ra rb rc ps t2 t3 (fS (ps.getD t3.toNat []) 0) (fI (ps.getD t3.toNat []) 1) (fI (ps.getD t3.toNat []) 2) (fI (ps.getD t3.toNat []) 3) (fI (ps.getD t3.toNat []) 4) 0) (some (.ret, o33a_0 ra rb rc ps t2 (v33aa_0_t2' ra rb rc ps t2 t3 (fS (ps.getD t3.toNat []) 0) (fI (ps.getD t3.toNat []) 1) (fI (ps.getD t3.toNat []) 2) (fI (ps.getD t3.toNat []) 3) (fI (ps.getD t3.toNat []) 4) 0) t3)) (cond (i33aa_1 ra rb rc ps t2 t3 (fS (ps.getD t3.toNat []) 0) (fI (ps.getD t3.toNat []) 1) (fI (ps.getD t3.toNat []) 2) (fI (ps.getD t3.toNat []) 3) (fI (ps.getD t3.toNat []) 4) 0) (cond (g57 (fI (ps.getD t3.toNat []) 1) 1 2000) (cond (!w57_0 (fI (ps.getD t3.toNat []) 1) 1 2000) (some (.ret, o33a_0 ra rb rc ps t2 1 t3)) (cond (g57 (fI (ps.getD t3.toNat []) 2) 0 9) (cond (!w57_0 (fI (ps.getD t3.toNat []) 2) 0 9) (some (.ret, o33a_0 ra rb rc ps t2 1 t3)) (cond (g57 (fI (ps.getD t3.toNat []) 3) 0 9) (cond (!w57_0 (fI (ps.getD t3.toNat []) 3) 0 9) (some (.ret, o33a_0 ra rb rc ps t2 1 t3)) (some (.nrm, s33a ra rb rc ps t2 (IntKind.i64.wrap (t3 + 1))))) (none))) (none))) (none)) (none)))) (none)) (none)) (some (.ext 0, o33a_1 ra rb rc ps t2 t3)) := by kernel_rfl
theorem rnd33a (ra : Int) (rb : Int) (rc : Int) (ps : List (List AV)) (t2 : Int) (x : S33a) : round Try.prog Se (ro 33) L33 lp33a [false, true, false, true, true, true] [(1, none), (2, none), (3, none)] 0 ((fun x => s33a ra rb rc ps t2 x.t3) x) = toR (fun x => s33a ra rb rc ps t2 x.t3) (ou33a ra rb rc ps t2) (stp33a ra rb rc ps t2 x.t3) := by
  refine (round33a _ _ _ _ _ _ ).trans ?_
  unfold stp33a
  simp only [toR_cond]
  rfl
theorem lok33a {st : St} {outs : List (Bool × Ex × St)} {e : Ex} {s : St} (hl : l33a st = some outs) (hch : Chosen outs e s) :
    ∃ keep nb, 0 ≤ nb ∧ LB Try.prog Se (ro 33) L33 lp33a [false, true, false, true, true, true] keep nb st e s := by
  unfold l33a at hl
  split at hl
  · rename_i ra rb rc ps t2 t3 hno
    cases hl
    have hno := normW_norm hno
    refine ⟨_, _, ?_, .enter hno ?_⟩
    · decide
    have main := fun y h => LB_run (x := (⟨t3⟩ : S33a)) (y := y) (nb := 0) (fun y => by cases y <;> simp [ou33a]) (rnd33a ra rb rc ps t2) h
    obtain ⟨x, hx, hg, rfl, rfl⟩ := chosen_any hch
    simp only [List.mem_cons, List.not_mem_nil, or_false] at hx
    rcases hx with rfl | rfl
    · exact main _ (is33a_0 ra rb rc ps t2 t3 hg)
    · exact main _ (is33a_1 ra rb rc ps t2 t3 hg)
  · cases hl
theorem is33b_0 (ra : Int) (rb : Int) (rc : Int) (ps : List (List AV)) (t2 : Int) (t6 : Int) (h : i33b_0 ra rb rc ps t2 t6 = true) : r33b ra rb rc ps t2 t6 = some (.x0 (v33b_0_t2' ra rb rc ps t2 t6) (v33b_0_t6 ra rb rc ps t2 t6)) := by
  unfold i33b_0 at h
  unfold v33b_0_t2' v33b_0_t6
  generalize r33b ra rb rc ps t2 t6 = r at h ⊢
  rcases r with _ | y
  · cases h
  · cases y <;> first | rfl | cases h
theorem is33b_1 (ra : Int) (rb : Int) (rc : Int) (ps : List (List AV)) (t2 : Int) (t6 : Int) (h : i33b_1 ra rb rc ps t2 t6 = true) : r33b ra rb rc ps t2 t6 = some (.x1 (v33b_1_t6 ra rb rc ps t2 t6)) := by
  unfold i33b_1 at h
  unfold v33b_1_t6
  generalize r33b ra rb rc ps t2 t6 = r at h ⊢
  rcases r with _ | y
  · cases h
  · cases y <;> first | rfl | cases h
theorem round33b (ra : Int) (rb : Int) (rc : Int) (ps : List (List AV)) (t2 : Int) (t6 : Int) : round Try.prog Se (ro 33) L33 lp33b [false, true, false, true, true, true, true] [(1, none), (2, none), (6, none)] 0 (s33b ra rb rc ps t2 t6) =
    cond (decide (t6 < (↑ps.length : Int))) (cond (inb t6 ps.length) (cond (g57 (fI (ps.getD t6.toNat []) 4) 0 (IntKind.i64.wrap ((↑ps.length : Int) - 1))) (cond (!w57_0 (fI (ps.getD t6.toNat []) 4) 0 (IntKind.i64.wrap ((↑ps.length : Int) - 1))) (some (.ret, o33b_0 ra rb rc ps t2 7 t6)) (cond (inb (fI (ps.getD t6.toNat []) 4) ps.length) (cond (fI (ps.getD (fI (ps.getD t6.toNat []) 4).toNat []) 4 != t6) (some (.ret, o33b_0 ra rb rc ps t2 10 t6)) (cond (fI (ps.getD (fI (ps.getD t6.toNat []) 4).toNat []) 1 != fI (ps.getD t6.toNat []) 1) (some (.ret, o33b_0 ra rb rc ps t2 10 t6)) (cond (fI (ps.getD (fI (ps.getD t6.toNat []) 4).toNat []) 2 != fI (ps.getD t6.toNat []) 3) (some (.ret, o33b_0 ra rb rc ps t2 10 t6)) (cond (fI (ps.getD (fI (ps.getD t6.toNat []) 4).toNat []) 3 != fI (ps.getD t6.toNat []) 2) (some (.ret, o33b_0 ra rb rc ps t2 10 t6)) (some (.nrm, s33b ra rb rc ps t2 (IntKind.i64.wrap (t6 + 1)))))))) (none))) (none)) (none)) (some (.ext 4, o33b_1 ra rb rc ps t2 t6)) := by kernel_rfl
theorem rnd33b (ra : Int) (rb : Int) (rc : Int) (ps : List (List AV)) (t2 : Int) (x : S33b) : round Try.prog Se (ro 33) L33 lp33b [false, true, false, true, true, true, true] [(1, none), (2, none), (6, none)] 0 ((fun x => s33b ra rb rc ps t2 x.t6) x) = toR (fun x => s33b ra rb rc ps t2 x.t6) (ou33b ra rb rc ps t2) (stp33b ra rb rc ps t2 x.t6) := by
  refine (round33b _ _ _ _ _ _ ).trans ?_
  unfold stp33b
  simp only [toR_cond]
  rfl
theorem lok33b {st : St} {outs : List (Bool × Ex × St)} {e : Ex} {s : St} (hl : l33b st = some outs) (hch : Chosen outs e s) :
    ∃ keep nb, 0 ≤ nb ∧ LB Try.prog Se (ro 33) L33 lp33b [false, true, false, true, true, true, true] keep nb st e s := by
  unfold l33b at hl
  split at hl
  · rename_i ra rb rc ps t2 t6 hno
    cases hl
    have hno := normW_norm hno
    refine ⟨_, _, ?_, .enter hno ?_⟩
    · decide
    have main := fun y h => LB_run (x := (⟨t6⟩ : S33b)) (y := y) (nb := 0) (fun y => by cases y <;> simp [ou33b]) (rnd33b ra rb rc ps t2) h
    obtain ⟨x, hx, hg, rfl, rfl⟩ := chosen_any hch
    simp only [List.mem_cons, List.not_mem_nil, or_false] at hx
    rcases hx with rfl | rfl
    · exact main _ (is33b_0 ra rb rc ps t2 t6 hg)
    · exact main _ (is33b_1 ra rb rc ps t2 t6 hg)
  · cases hl
theorem L33_ok (q : Pl) (c : Code) (hq : locate c33 q.reverse = some (.loop c)) (st : St) (outs : List (Bool × Ex × St)) (e : Ex) (s : St) (hl : L33 q st = some outs) (hch : Chosen outs e s) :
    ∃ keep nb, 0 ≤ nb ∧ LB Try.prog Se (ro 33) L33 c q keep nb st e s := by
  unfold L33 at hl
  split at hl
  · have : locate c33 ([false, true, false, true, true, false, false, true, false, false, true, false, true, true, true] : Pl).reverse = some (.loop lp33aa) := by kernel_rfl
    rw [this] at hq
    cases hq
    exact lok33aa hl hch
  · have : locate c33 ([false, true, false, true, true, true] : Pl).reverse = some (.loop lp33a) := by kernel_rfl
    rw [this] at hq
    cases hq
    exact lok33a hl hch
  · have : locate c33 ([false, true, false, true, true, true, true] : Pl).reverse = some (.loop lp33b) := by kernel_rfl
    rw [this] at hq
    cases hq
    exact lok33b hl hch
  · cases hl
theorem lok33 : LOK Try.prog Se (ro 33) L33 0 false c33 [] :=
  lok_lo L33_ok c33 [] false (locate_nil _) (by kernel_rfl)
noncomputable def t33 (ra rb rc : Int) (ps : List (List AV)) : Tr ((Int)) :=
  .cn (g57 ra 0 2000) (.cn (!w57_0 ra 0 2000) (.lf (1)) (.cn (g57 rb 0 9) (.cn (!w57_0 rb 0 9) (.lf (1)) (.cn (g57 rc 0 9) (.cn (!w57_0 rc 0 9) (.lf (1)) (.cn (decide ((↑ps.length : Int) > 10)) (.lf (3)) (.cn (i33a_0 ra rb rc ps 0 0) (.lf (v33a_0_t2' ra rb rc ps 0 0)) (.cn (i33a_1 ra rb rc ps 0 0) (.cn (i33b_0 ra rb rc ps 0 0) (.lf (v33b_0_t2' ra rb rc ps 0 0)) (.cn (i33b_1 ra rb rc ps 0 0) (.lf (0)) (.nn))) (.nn))))) (.nn))) (.nn))) (.nn)
noncomputable def g33 (ra rb rc : Int) (ps : List (List AV)) : Bool := (t33 ra rb rc ps).g
noncomputable def w33_0 (ra rb rc : Int) (ps : List (List AV)) : Int := (t33 ra rb rc ps).val
theorem eq33 (ra rb rc : Int) (ps : List (List AV)) : evF Try.prog Se (ro 33) L33 Try.f33 [.agg [.i .i64 ra, .i .i64 rb, .i .i64 rc, .rs 31 ps]] = (t33 ra rb rc ps).opt (fun (x : (Int)) => (.i .i64 x : AV)) := by kernel_rfl
theorem con33 (ra rb rc : Int) (ps : List (List AV)) (h : g33 ra rb rc ps = true) : Con Try.prog 33 [.agg [.i .i64 ra, .i .i64 rb, .i .i64 rc, .rs 31 ps]] [] (.i .i64 (w33_0 ra rb rc ps)) [] :=
  con_of Se_ok mixed Try.func33 (c := c33) rfl (names 33 _ Try.func33) lok33 ((eq33 ra rb rc ps).trans (Tr.sound _ _ h))
noncomputable def e33 (args : List AV) (rows : List Blk) : Option (Bool × AV × List Blk) := match args, rows with
  | [.agg [.i .i64 ra, .i .i64 rb, .i .i64 rc, .rs 31 ps]], [] => some (g33 ra rb rc ps, .i .i64 (w33_0 ra rb rc ps), [])
  | _, _ => none
theorem e33_ok (args : List AV) (rows : List Blk) (pre : Bool) (v : AV) (rows' : List Blk) (h : e33 args rows = some (pre, v, rows')) (hp : pre = true) : Con Try.prog 33 args rows v rows' := by
  unfold e33 at h
  split at h
  · cases h; exact con33 _ _ _ _ hp
  · cases h
-- SPEC 33
end Go.Proofs.Ytgifjphinkbcaaa

set_option maxRecDepth 100000
set_option linter.unusedVariables false
namespace Go.Proofs.Ytgifjphinkbcaaa
open Go Go.Ev
noncomputable def Sf : Ev.Spec := insS 33 e33 (insS 29 e29 (Se))
theorem Sf_ok : SpecOK Try.prog Sf := insS_ok e33_ok (insS_ok e29_ok (Se_ok))
end Go.Proofs.Ytgifjphinkbcaaa
