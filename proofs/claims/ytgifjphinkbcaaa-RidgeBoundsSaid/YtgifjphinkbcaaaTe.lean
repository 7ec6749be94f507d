/-
  The law RidgeBounds of the roofer's ridges answers true whatever Rods and weights it is handed; no conditions.
-/
import Derived.Test.YtgifjphinkbcaaaTd
set_option linter.unusedVariables false
set_option maxRecDepth 100000
set_option linter.unusedVariables false
namespace Go.Proofs.Ytgifjphinkbcaaa
open Go Go.Ev

/-! ### ref.Check -/
noncomputable def c33 : Code := match Try.f33.body with | some c => c | _ => .skip
noncomputable def lp33a : Code := loopAt c33 [true, true, true, false, true, false]
noncomputable def s33a (ra : Int) (rb : Int) (rc : Int) (ps : List (List AV)) (t2 : Int) (t3 : Int) : St :=
  { t := [(1, .rp [.int .i64, .int .i64, .int .i64, .sl 31] [.i .i64 ra, .i .i64 rb, .i .i64 rc, .rs 31 ps] 0), (2, .i .i64 t2), (3, .i .i64 t3)], m := [], nx := 0, nt := 126 }
noncomputable def lp33aa : Code := loopAt c33 [true, true, true, false, true, false, false, true, false, false, true, true, false, true, false]
noncomputable def s33aa (ra : Int) (rb : Int) (rc : Int) (ps : List (List AV)) (t2 : Int) (t3 : Int) (t5 : Int) (m10_0 : ByteArray) (m10_1 : Int) (m10_2 : Int) (m10_3 : Int) (m10_4 : Int) : St :=
  { t := [(1, .rp [.int .i64, .int .i64, .int .i64, .sl 31] [.i .i64 ra, .i .i64 rb, .i .i64 rc, .rs 31 ps] 0), (2, .i .i64 t2), (3, .i .i64 t3), (4, .p 10 0 0), (5, .i .i64 t5)], m := [(0, .dead), (1, .dead), (2, .dead), (3, .dead), (4, .dead), (5, .dead), (6, .dead), (7, .dead), (8, .dead), (9, .dead), (10, .row 31 [[.s m10_0, .i .i64 m10_1, .i .i64 m10_2, .i .i64 m10_3, .i .i64 m10_4]])], nx := 11, nt := 126 }
structure S33aa where
  t5 : Int
inductive T33aa where
  | x0 (t2' : Int) (t5 : Int)
  | x1 (t5 : Int)
noncomputable def stp33aa (ra : Int) (rb : Int) (rc : Int) (ps : List (List AV)) (t2 : Int) (t3 : Int) (m10_0 : ByteArray) (m10_1 : Int) (m10_2 : Int) (m10_3 : Int) (m10_4 : Int) (t5 : Int) : Lp S33aa T33aa :=
  cond (decide (t5 < t3)) (cond (inb t5 ps.length) (cond ((fS (ps.getD t5.toNat []) 0).toList == m10_0.toList) (.out (.x0 6 t5)) (.go ⟨IntKind.i64.wrap (t5 + 1)⟩)) (.bad)) (.out (.x1 t5))
noncomputable def o33aa_0 (ra : Int) (rb : Int) (rc : Int) (ps : List (List AV)) (t2 : Int) (t3 : Int) (m10_0 : ByteArray) (m10_1 : Int) (m10_2 : Int) (m10_3 : Int) (m10_4 : Int) (t2' : Int) (t5 : Int) : St :=
  { t := [(1, .rp [.int .i64, .int .i64, .int .i64, .sl 31] [.i .i64 ra, .i .i64 rb, .i .i64 rc, .rs 31 ps] 0), (2, .i .i64 t2'), (3, .i .i64 t3), (4, .p 10 0 0), (5, .i .i64 t5)], m := [(0, .dead), (1, .dead), (2, .dead), (3, .dead), (4, .dead), (5, .dead), (6, .dead), (7, .dead), (8, .dead), (9, .dead), (10, .row 31 [[.s m10_0, .i .i64 m10_1, .i .i64 m10_2, .i .i64 m10_3, .i .i64 m10_4]])], nx := 11, nt := 126 }
noncomputable def o33aa_1 (ra : Int) (rb : Int) (rc : Int) (ps : List (List AV)) (t2 : Int) (t3 : Int) (m10_0 : ByteArray) (m10_1 : Int) (m10_2 : Int) (m10_3 : Int) (m10_4 : Int) (t5 : Int) : St :=
  { t := [(1, .rp [.int .i64, .int .i64, .int .i64, .sl 31] [.i .i64 ra, .i .i64 rb, .i .i64 rc, .rs 31 ps] 0), (2, .i .i64 t2), (3, .i .i64 t3), (4, .p 10 0 0), (5, .i .i64 t5)], m := [(0, .dead), (1, .dead), (2, .dead), (3, .dead), (4, .dead), (5, .dead), (6, .dead), (7, .dead), (8, .dead), (9, .dead), (10, .row 31 [[.s m10_0, .i .i64 m10_1, .i .i64 m10_2, .i .i64 m10_3, .i .i64 m10_4]])], nx := 11, nt := 126 }
noncomputable def ou33aa (ra : Int) (rb : Int) (rc : Int) (ps : List (List AV)) (t2 : Int) (t3 : Int) (m10_0 : ByteArray) (m10_1 : Int) (m10_2 : Int) (m10_3 : Int) (m10_4 : Int) : T33aa → Ex × St
  | .x0 t2' t5 => (.ret, o33aa_0 ra rb rc ps t2 t3 m10_0 m10_1 m10_2 m10_3 m10_4 t2' t5)
  | .x1 t5 => (.ext 2, o33aa_1 ra rb rc ps t2 t3 m10_0 m10_1 m10_2 m10_3 m10_4 t5)
noncomputable def r33aa (ra : Int) (rb : Int) (rc : Int) (ps : List (List AV)) (t2 : Int) (t3 : Int) (m10_0 : ByteArray) (m10_1 : Int) (m10_2 : Int) (m10_3 : Int) (m10_4 : Int) (t5 : Int) : Option T33aa := run (fun x => stp33aa ra rb rc ps t2 t3 m10_0 m10_1 m10_2 m10_3 m10_4 x.t5) (⟨t5⟩ : S33aa)
noncomputable def i33aa_0 (ra : Int) (rb : Int) (rc : Int) (ps : List (List AV)) (t2 : Int) (t3 : Int) (m10_0 : ByteArray) (m10_1 : Int) (m10_2 : Int) (m10_3 : Int) (m10_4 : Int) (t5 : Int) : Bool := match r33aa ra rb rc ps t2 t3 m10_0 m10_1 m10_2 m10_3 m10_4 t5 with
  | some (.x0 _ _) => true
  | _ => false
noncomputable def v33aa_0_t2' (ra : Int) (rb : Int) (rc : Int) (ps : List (List AV)) (t2 : Int) (t3 : Int) (m10_0 : ByteArray) (m10_1 : Int) (m10_2 : Int) (m10_3 : Int) (m10_4 : Int) (t5 : Int) : Int := match r33aa ra rb rc ps t2 t3 m10_0 m10_1 m10_2 m10_3 m10_4 t5 with
  | some (.x0 t2' _) => t2'
  | _ => default
noncomputable def v33aa_0_t5 (ra : Int) (rb : Int) (rc : Int) (ps : List (List AV)) (t2 : Int) (t3 : Int) (m10_0 : ByteArray) (m10_1 : Int) (m10_2 : Int) (m10_3 : Int) (m10_4 : Int) (t5 : Int) : Int := match r33aa ra rb rc ps t2 t3 m10_0 m10_1 m10_2 m10_3 m10_4 t5 with
  | some (.x0 _ t5) => t5
  | _ => default
noncomputable def i33aa_1 (ra : Int) (rb : Int) (rc : Int) (ps : List (List AV)) (t2 : Int) (t3 : Int) (m10_0 : ByteArray) (m10_1 : Int) (m10_2 : Int) (m10_3 : Int) (m10_4 : Int) (t5 : Int) : Bool := match r33aa ra rb rc ps t2 t3 m10_0 m10_1 m10_2 m10_3 m10_4 t5 with
  | some (.x1 _) => true
  | _ => false
noncomputable def v33aa_1_t5 (ra : Int) (rb : Int) (rc : Int) (ps : List (List AV)) (t2 : Int) (t3 : Int) (m10_0 : ByteArray) (m10_1 : Int) (m10_2 : Int) (m10_3 : Int) (m10_4 : Int) (t5 : Int) : Int := match r33aa ra rb rc ps t2 t3 m10_0 m10_1 m10_2 m10_3 m10_4 t5 with
  | some (.x1 t5) => t5
  | _ => default
noncomputable def l33aa (st : St) : Option (List (Bool × Ex × St)) := match normW Try.prog [(1, none), (2, none), (3, none), (4, none), (5, none)] 11 st with
  | some ([.rp [.int .i64, .int .i64, .int .i64, .sl 31] [.i .i64 ra, .i .i64 rb, .i .i64 rc, .rs 31 ps] 0, .i .i64 t2, .i .i64 t3, .p 10 0 0, .i .i64 t5], [(0, .dead), (1, .dead), (2, .dead), (3, .dead), (4, .dead), (5, .dead), (6, .dead), (7, .dead), (8, .dead), (9, .dead), (10, .row 31 [[.s m10_0, .i .i64 m10_1, .i .i64 m10_2, .i .i64 m10_3, .i .i64 m10_4]])], 11, 126) => some [(i33aa_0 ra rb rc ps t2 t3 m10_0 m10_1 m10_2 m10_3 m10_4 t5, .ret, o33aa_0 ra rb rc ps t2 t3 m10_0 m10_1 m10_2 m10_3 m10_4 (v33aa_0_t2' ra rb rc ps t2 t3 m10_0 m10_1 m10_2 m10_3 m10_4 t5) (v33aa_0_t5 ra rb rc ps t2 t3 m10_0 m10_1 m10_2 m10_3 m10_4 t5)), (i33aa_1 ra rb rc ps t2 t3 m10_0 m10_1 m10_2 m10_3 m10_4 t5, .ext 2, o33aa_1 ra rb rc ps t2 t3 m10_0 m10_1 m10_2 m10_3 m10_4 (v33aa_1_t5 ra rb rc ps t2 t3 m10_0 m10_1 m10_2 m10_3 m10_4 t5))]
  | _ => none
structure S33a where
  t3 : Int
inductive T33a where
  | x0 (t2' : Int) (t3 : Int)
  | x1 (t3 : Int)
noncomputable def stp33a (ra : Int) (rb : Int) (rc : Int) (ps : List (List AV)) (t2 : Int) (t3 : Int) : Lp S33a T33a :=
  cond (decide (t3 < (↑ps.length : Int))) (cond (inb t3 ps.length) (cond (g66 (fS (ps.getD t3.toNat []) 0)) (cond (!w66_0 (fS (ps.getD t3.toNat []) 0)) (.out (.x0 5 t3)) (cond (i33aa_0 ra rb rc ps t2 t3 (fS (ps.getD t3.toNat []) 0) (fI (ps.getD t3.toNat []) 1) (fI (ps.getD t3.toNat []) 2) (fI (ps.getD t3.toNat []) 3) (fI (ps.getD t3.toNat []) 4) 0) (.out (.x0 (v33aa_0_t2' ra rb rc ps t2 t3 (fS (ps.getD t3.toNat []) 0) (fI (ps.getD t3.toNat []) 1) (fI (ps.getD t3.toNat []) 2) (fI (ps.getD t3.toNat []) 3) (fI (ps.getD t3.toNat []) 4) 0) t3)) (cond (i33aa_1 ra rb rc ps t2 t3 (fS (ps.getD t3.toNat []) 0) (fI (ps.getD t3.toNat []) 1) (fI (ps.getD t3.toNat []) 2) (fI (ps.getD t3.toNat []) 3) (fI (ps.getD t3.toNat []) 4) 0) (cond (g57 (fI (ps.getD t3.toNat []) 1) 1 2000) (cond (!w57_0 (fI (ps.getD t3.toNat []) 1) 1 2000) (.out (.x0 1 t3)) (cond (g57 (fI (ps.getD t3.toNat []) 2) 0 9) (cond (!w57_0 (fI (ps.getD t3.toNat []) 2) 0 9) (.out (.x0 1 t3)) (cond (g57 (fI (ps.getD t3.toNat []) 3) 0 9) (cond (!w57_0 (fI (ps.getD t3.toNat []) 3) 0 9) (.out (.x0 1 t3)) (.go ⟨IntKind.i64.wrap (t3 + 1)⟩)) (.bad))) (.bad))) (.bad)) (.bad)))) (.bad)) (.bad)) (.out (.x1 t3))
noncomputable def o33a_0 (ra : Int) (rb : Int) (rc : Int) (ps : List (List AV)) (t2 : Int) (t2' : Int) (t3 : Int) : St :=
  { t := [(1, .rp [.int .i64, .int .i64, .int .i64, .sl 31] [.i .i64 ra, .i .i64 rb, .i .i64 rc, .rs 31 ps] 0), (2, .i .i64 t2'), (3, .i .i64 t3)], m := [], nx := 0, nt := 126 }
noncomputable def o33a_1 (ra : Int) (rb : Int) (rc : Int) (ps : List (List AV)) (t2 : Int) (t3 : Int) : St :=
  { t := [(1, .rp [.int .i64, .int .i64, .int .i64, .sl 31] [.i .i64 ra, .i .i64 rb, .i .i64 rc, .rs 31 ps] 0), (2, .i .i64 t2), (3, .i .i64 t3)], m := [], nx := 0, nt := 126 }
noncomputable def ou33a (ra : Int) (rb : Int) (rc : Int) (ps : List (List AV)) (t2 : Int) : T33a → Ex × St
  | .x0 t2' t3 => (.ret, o33a_0 ra rb rc ps t2 t2' t3)
  | .x1 t3 => (.ext 0, o33a_1 ra rb rc ps t2 t3)
noncomputable def r33a (ra : Int) (rb : Int) (rc : Int) (ps : List (List AV)) (t2 : Int) (t3 : Int) : Option T33a := run (fun x => stp33a ra rb rc ps t2 x.t3) (⟨t3⟩ : S33a)
noncomputable def i33a_0 (ra : Int) (rb : Int) (rc : Int) (ps : List (List AV)) (t2 : Int) (t3 : Int) : Bool := match r33a ra rb rc ps t2 t3 with
  | some (.x0 _ _) => true
  | _ => false
noncomputable def v33a_0_t2' (ra : Int) (rb : Int) (rc : Int) (ps : List (List AV)) (t2 : Int) (t3 : Int) : Int := match r33a ra rb rc ps t2 t3 with
  | some (.x0 t2' _) => t2'
  | _ => default
noncomputable def v33a_0_t3 (ra : Int) (rb : Int) (rc : Int) (ps : List (List AV)) (t2 : Int) (t3 : Int) : Int := match r33a ra rb rc ps t2 t3 with
  | some (.x0 _ t3) => t3
  | _ => default
noncomputable def i33a_1 (ra : Int) (rb : Int) (rc : Int) (ps : List (List AV)) (t2 : Int) (t3 : Int) : Bool := match r33a ra rb rc ps t2 t3 with
  | some (.x1 _) => true
  | _ => false
noncomputable def v33a_1_t3 (ra : Int) (rb : Int) (rc : Int) (ps : List (List AV)) (t2 : Int) (t3 : Int) : Int := match r33a ra rb rc ps t2 t3 with
  | some (.x1 t3) => t3
  | _ => default
noncomputable def l33a (st : St) : Option (List (Bool × Ex × St)) := match normW Try.prog [(1, none), (2, none), (3, none)] 0 st with
  | some ([.rp [.int .i64, .int .i64, .int .i64, .sl 31] [.i .i64 ra, .i .i64 rb, .i .i64 rc, .rs 31 ps] 0, .i .i64 t2, .i .i64 t3], [], 0, 126) => some [(i33a_0 ra rb rc ps t2 t3, .ret, o33a_0 ra rb rc ps t2 (v33a_0_t2' ra rb rc ps t2 t3) (v33a_0_t3 ra rb rc ps t2 t3)), (i33a_1 ra rb rc ps t2 t3, .ext 0, o33a_1 ra rb rc ps t2 (v33a_1_t3 ra rb rc ps t2 t3))]
  | _ => none
noncomputable def lp33b : Code := loopAt c33 [true, true, true, true, false, true, false]
noncomputable def s33b (ra : Int) (rb : Int) (rc : Int) (ps : List (List AV)) (t2 : Int) (t6 : Int) : St :=
  { t := [(1, .rp [.int .i64, .int .i64, .int .i64, .sl 31] [.i .i64 ra, .i .i64 rb, .i .i64 rc, .rs 31 ps] 0), (2, .i .i64 t2), (6, .i .i64 t6)], m := [], nx := 0, nt := 126 }
structure S33b where
  t6 : Int
inductive T33b where
  | x0 (t2' : Int) (t6 : Int)
  | x1 (t6 : Int)
noncomputable def stp33b (ra : Int) (rb : Int) (rc : Int) (ps : List (List AV)) (t2 : Int) (t6 : Int) : Lp S33b T33b :=
  cond (decide (t6 < (↑ps.length : Int))) (cond (inb t6 ps.length) (cond (g57 (fI (ps.getD t6.toNat []) 4) 0 (IntKind.i64.wrap ((↑ps.length : Int) - 1))) (cond (!w57_0 (fI (ps.getD t6.toNat []) 4) 0 (IntKind.i64.wrap ((↑ps.length : Int) - 1))) (.out (.x0 7 t6)) (cond (inb (fI (ps.getD t6.toNat []) 4) ps.length) (cond (fI (ps.getD (fI (ps.getD t6.toNat []) 4).toNat []) 4 != t6) (.out (.x0 10 t6)) (cond (fI (ps.getD (fI (ps.getD t6.toNat []) 4).toNat []) 1 != fI (ps.getD t6.toNat []) 1) (.out (.x0 10 t6)) (cond (fI (ps.getD (fI (ps.getD t6.toNat []) 4).toNat []) 2 != fI (ps.getD t6.toNat []) 3) (.out (.x0 10 t6)) (cond (fI (ps.getD (fI (ps.getD t6.toNat []) 4).toNat []) 3 != fI (ps.getD t6.toNat []) 2) (.out (.x0 10 t6)) (.go ⟨IntKind.i64.wrap (t6 + 1)⟩))))) (.bad))) (.bad)) (.bad)) (.out (.x1 t6))
noncomputable def o33b_0 (ra : Int) (rb : Int) (rc : Int) (ps : List (List AV)) (t2 : Int) (t2' : Int) (t6 : Int) : St :=
  { t := [(1, .rp [.int .i64, .int .i64, .int .i64, .sl 31] [.i .i64 ra, .i .i64 rb, .i .i64 rc, .rs 31 ps] 0), (2, .i .i64 t2'), (6, .i .i64 t6)], m := [], nx := 0, nt := 126 }
noncomputable def o33b_1 (ra : Int) (rb : Int) (rc : Int) (ps : List (List AV)) (t2 : Int) (t6 : Int) : St :=
  { t := [(1, .rp [.int .i64, .int .i64, .int .i64, .sl 31] [.i .i64 ra, .i .i64 rb, .i .i64 rc, .rs 31 ps] 0), (2, .i .i64 t2), (6, .i .i64 t6)], m := [], nx := 0, nt := 126 }
noncomputable def ou33b (ra : Int) (rb : Int) (rc : Int) (ps : List (List AV)) (t2 : Int) : T33b → Ex × St
  | .x0 t2' t6 => (.ret, o33b_0 ra rb rc ps t2 t2' t6)
  | .x1 t6 => (.ext 4, o33b_1 ra rb rc ps t2 t6)
noncomputable def r33b (ra : Int) (rb : Int) (rc : Int) (ps : List (List AV)) (t2 : Int) (t6 : Int) : Option T33b := run (fun x => stp33b ra rb rc ps t2 x.t6) (⟨t6⟩ : S33b)
noncomputable def i33b_0 (ra : Int) (rb : Int) (rc : Int) (ps : List (List AV)) (t2 : Int) (t6 : Int) : Bool := match r33b ra rb rc ps t2 t6 with
  | some (.x0 _ _) => true
  | _ => false
noncomputable def v33b_0_t2' (ra : Int) (rb : Int) (rc : Int) (ps : List (List AV)) (t2 : Int) (t6 : Int) : Int := match r33b ra rb rc ps t2 t6 with
  | some (.x0 t2' _) => t2'
  | _ => default
noncomputable def v33b_0_t6 (ra : Int) (rb : Int) (rc : Int) (ps : List (List AV)) (t2 : Int) (t6 : Int) : Int := match r33b ra rb rc ps t2 t6 with
  | some (.x0 _ t6) => t6
  | _ => default
noncomputable def i33b_1 (ra : Int) (rb : Int) (rc : Int) (ps : List (List AV)) (t2 : Int) (t6 : Int) : Bool := match r33b ra rb rc ps t2 t6 with
  | some (.x1 _) => true
  | _ => false
noncomputable def v33b_1_t6 (ra : Int) (rb : Int) (rc : Int) (ps : List (List AV)) (t2 : Int) (t6 : Int) : Int := match r33b ra rb rc ps t2 t6 with
  | some (.x1 t6) => t6
  | _ => default
noncomputable def l33b (st : St) : Option (List (Bool × Ex × St)) := match normW Try.prog [(1, none), (2, none), (6, none)] 0 st with
  | some ([.rp [.int .i64, .int .i64, .int .i64, .sl 31] [.i .i64 ra, .i .i64 rb, .i .i64 rc, .rs 31 ps] 0, .i .i64 t2, .i .i64 t6], [], 0, 126) => some [(i33b_0 ra rb rc ps t2 t6, .ret, o33b_0 ra rb rc ps t2 (v33b_0_t2' ra rb rc ps t2 t6) (v33b_0_t6 ra rb rc ps t2 t6)), (i33b_1 ra rb rc ps t2 t6, .ext 4, o33b_1 ra rb rc ps t2 (v33b_1_t6 ra rb rc ps t2 t6))]
  | _ => none
noncomputable def L33 : LSpec := fun p st => match p with
  | [false, true, false, true, true, false, false, true, false, false, true, false, true, true, true] => l33aa st
  | [false, true, false, true, true, true] => l33a st
  | [false, true, false, true, true, true, true] => l33b st
  | _ => none
theorem is33aa_0 (ra : Int) (rb : Int) (rc : Int) (ps : List (List AV)) (t2 : Int) (t3 : Int) (m10_0 : ByteArray) (m10_1 : Int) (m10_2 : Int) (m10_3 : Int) (m10_4 : Int) (t5 : Int) (h : i33aa_0 ra rb rc ps t2 t3 m10_0 m10_1 m10_2 m10_3 m10_4 t5 = true) : r33aa ra rb rc ps t2 t3 m10_0 m10_1 m10_2 m10_3 m10_4 t5 = some (.x0 (v33aa_0_t2' ra rb rc ps t2 t3 m10_0 m10_1 m10_2 m10_3 m10_4 t5) (v33aa_0_t5 ra rb rc ps t2 t3 m10_0 m10_1 m10_2 m10_3 m10_4 t5)) := by
  unfold i33aa_0 at h
  unfold v33aa_0_t2' v33aa_0_t5
  generalize r33aa ra rb rc ps t2 t3 m10_0 m10_1 m10_2 m10_3 m10_4 t5 = r at h ⊢
  rcases r with _ | y
  · cases h
  · cases y <;> first | rfl | cases h
theorem is33aa_1 (ra : Int) (rb : Int) (rc : Int) (ps : List (List AV)) (t2 : Int) (t3 : Int) (m10_0 : ByteArray) (m10_1 : Int) (m10_2 : Int) (m10_3 : Int) (m10_4 : Int) (t5 : Int) (h : i33aa_1 ra rb rc ps t2 t3 m10_0 m10_1 m10_2 m10_3 m10_4 t5 = true) : r33aa ra rb rc ps t2 t3 m10_0 m10_1 m10_2 m10_3 m10_4 t5 = some (.x1 (v33aa_1_t5 ra rb rc ps t2 t3 m10_0 m10_1 m10_2 m10_3 m10_4 t5)) := by
  unfold i33aa_1 at h
  unfold v33aa_1_t5
  generalize r33aa ra rb rc ps t2 t3 m10_0 m10_1 m10_2 m10_3 m10_4 t5 = r at h ⊢
  rcases r with _ | y
  · cases h
  · cases y <;> first | rfl | cases h
theorem round33aa (ra : Int) (rb : Int) (rc : Int) (ps : List (List AV)) (t2 : Int) (t3 : Int) (t5 : Int) (m10_0 : ByteArray) (m10_1 : Int) (m10_2 : Int) (m10_3 : Int) (m10_4 : Int) : round Try.prog Se (ro 33) L33 lp33aa [false, true, false, true, true, false, false, true, false, false, true, false, true, true, true] [(1, none), (2, none), (3, none), (4, none), (5, none)] 11 (s33aa ra rb rc ps t2 t3 t5 m10_0 m10_1 m10_2 m10_3 m10_4) =
    cond (decide (t5 < t3)) (cond (inb t5 ps.length) (cond ((fS (ps.getD t5.toNat []) 0).toList == m10_0.toList) (some (.ret, o33aa_0 ra rb rc ps t2 t3 m10_0 m10_1 m10_2 m10_3 m10_4 6 t5)) (some (.nrm, s33aa ra rb rc ps t2 t3 (IntKind.i64.wrap (t5 + 1)) m10_0 m10_1 m10_2 m10_3 m10_4))) (none)) (some (.ext 2, o33aa_1 ra rb rc ps t2 t3 m10_0 m10_1 m10_2 m10_3 m10_4 t5)) := by kernel_rfl
theorem rnd33aa (ra : Int) (rb : Int) (rc : Int) (ps : List (List AV)) (t2 : Int) (t3 : Int) (m10_0 : ByteArray) (m10_1 : Int) (m10_2 : Int) (m10_3 : Int) (m10_4 : Int) (x : S33aa) : round Try.prog Se (ro 33) L33 lp33aa [false, true, false, true, true, false, false, true, false, false, true, false, true, true, true] [(1, none), (2, none), (3, none), (4, none), (5, none)] 11 ((fun x => s33aa ra rb rc ps t2 t3 x.t5 m10_0 m10_1 m10_2 m10_3 m10_4) x) = toR (fun x => s33aa ra rb rc ps t2 t3 x.t5 m10_0 m10_1 m10_2 m10_3 m10_4) (ou33aa ra rb rc ps t2 t3 m10_0 m10_1 m10_2 m10_3 m10_4) (stp33aa ra rb rc ps t2 t3 m10_0 m10_1 m10_2 m10_3 m10_4 x.t5) := by
  refine (round33aa _ _ _ _ _ _ _ _ _ _ _ _ ).trans ?_
  unfold stp33aa
  simp only [toR_cond]
  rfl
theorem lok33aa {st : St} {outs : List (Bool × Ex × St)} {e : Ex} {s : St} (hl : l33aa st = some outs) (hch : Chosen outs e s) :
    ∃ keep nb, 0 ≤ nb ∧ LB Try.prog Se (ro 33) L33 lp33aa [false, true, false, true, true, false, false, true, false, false, true, false, true, true, true] keep nb st e s := by
  unfold l33aa at hl
  split at hl
  · rename_i ra rb rc ps t2 t3 t5 m10_0 m10_1 m10_2 m10_3 m10_4 hno
    cases hl
    have hno := normW_norm hno
    refine ⟨_, _, ?_, .enter hno ?_⟩
    · decide
    have main := fun y h => LB_run (x := (⟨t5⟩ : S33aa)) (y := y) (nb := 11) (fun y => by cases y <;> simp [ou33aa]) (rnd33aa ra rb rc ps t2 t3 m10_0 m10_1 m10_2 m10_3 m10_4) h
    obtain ⟨x, hx, hg, rfl, rfl⟩ := chosen_any hch
    simp only [List.mem_cons, List.not_mem_nil, or_false] at hx
    rcases hx with rfl | rfl
    · exact main _ (is33aa_0 ra rb rc ps t2 t3 m10_0 m10_1 m10_2 m10_3 m10_4 t5 hg)
    · exact main _ (is33aa_1 ra rb rc ps t2 t3 m10_0 m10_1 m10_2 m10_3 m10_4 t5 hg)
  · cases hl
theorem is33a_0 (ra : Int) (rb : Int) (rc : Int) (ps : List (List AV)) (t2 : Int) (t3 : Int) (h : i33a_0 ra rb rc ps t2 t3 = true) : r33a ra rb rc ps t2 t3 = some (.x0 (v33a_0_t2' ra rb rc ps t2 t3) (v33a_0_t3 ra rb rc ps t2 t3)) := by
  unfold i33a_0 at h
  unfold v33a_0_t2' v33a_0_t3
  generalize r33a ra rb rc ps t2 t3 = r at h ⊢
  rcases r with _ | y
  · cases h
  · cases y <;> first | rfl | cases h
theorem is33a_1 (ra : Int) (rb : Int) (rc : Int) (ps : List (List AV)) (t2 : Int) (t3 : Int) (h : i33a_1 ra rb rc ps t2 t3 = true) : r33a ra rb rc ps t2 t3 = some (.x1 (v33a_1_t3 ra rb rc ps t2 t3)) := by
  unfold i33a_1 at h
  unfold v33a_1_t3
  generalize r33a ra rb rc ps t2 t3 = r at h ⊢
  rcases r with _ | y
  · cases h
  · cases y <;> first | rfl | cases h
theorem round33a (ra : Int) (rb : Int) (rc : Int) (ps : List (List AV)) (t2 : Int) (t3 : Int) : round Try.prog Se (ro 33) L33 lp33a [false, true, false, true, true, true] [(1, none), (2, none), (3, none)] 0 (s33a ra rb rc ps t2 t3) =
    cond (decide (t3 < (↑ps.length : Int))) (cond (inb t3 ps.length) (cond (g66 (fS (ps.getD t3.toNat []) 0)) (cond (!w66_0 (fS (ps.getD t3.toNat []) 0)) (some (.ret, o33a_0 ra rb rc ps t2 5 t3)) (cond (i33aa_0 ra rb rc ps t2 t3 (fS (ps.getD t3.toNat []) 0) (fI (ps.getD t3.toNat []) 1) (fI (ps.getD t3.toNat []) 2) (fI (ps.getD t3.toNat []) 3) (fI (ps.getD t3.toNat []) 4) 0) (some (.ret, o33a_0 ra rb rc ps t2 (v33aa_0_t2' ra rb rc ps t2 t3 (fS (ps.getD t3.toNat []) 0) (fI (ps.getD t3.toNat []) 1) (fI (ps.getD t3.toNat []) 2) (fI (ps.getD t3.toNat []) 3) (fI (ps.getD t3.toNat []) 4) 0) t3)) (cond (i33aa_1 ra rb rc ps t2 t3 (fS (ps.getD t3.toNat []) 0) (fI (ps.getD t3.toNat []) 1) (fI (ps.getD t3.toNat []) 2) (fI (ps.getD t3.toNat []) 3) (fI (ps.getD t3.toNat []) 4) 0) (cond (g57 (fI (ps.getD t3.toNat []) 1) 1 2000) (cond (!w57_0 (fI (ps.getD t3.toNat []) 1) 1 2000) (some (.ret, o33a_0 ra rb rc ps t2 1 t3)) (cond (g57 (fI (ps.getD t3.toNat []) 2) 0 9) (cond (!w57_0 (fI (ps.getD t3.toNat []) 2) 0 9) (some (.ret, o33a_0 ra rb rc ps t2 1 t3)) (cond (g57 (fI (ps.getD t3.toNat []) 3) 0 9) (cond (!w57_0 (fI (ps.getD t3.toNat []) 3) 0 9) (some (.ret, o33a_0 ra rb rc ps t2 1 t3)) (some (.nrm, s33a ra rb rc ps t2 (IntKind.i64.wrap (t3 + 1))))) (none))) (none))) (none)) (none)))) (none)) (none)) (some (.ext 0, o33a_1 ra rb rc ps t2 t3)) := by kernel_rfl
theorem rnd33a (ra : Int) (rb : Int) (rc : Int) (ps : List (List AV)) (t2 : Int) (x : S33a) : round Try.prog Se (ro 33) L33 lp33a [false, true, false, true, true, true] [(1, none), (2, none), (3, none)] 0 ((fun x => s33a ra rb rc ps t2 x.t3) x) = toR (fun x => s33a ra rb rc ps t2 x.t3) (ou33a ra rb rc ps t2) (stp33a ra rb rc ps t2 x.t3) := by
  refine (round33a _ _ _ _ _ _ ).trans ?_
  unfold stp33a
  simp only [toR_cond]
  rfl
theorem lok33a {st : St} {outs : List (Bool × Ex × St)} {e : Ex} {s : St} (hl : l33a st = some outs) (hch : Chosen outs e s) :
    ∃ keep nb, 0 ≤ nb ∧ LB Try.prog Se (ro 33) L33 lp33a [false, true, false, true, true, true] keep nb st e s := by
  unfold l33a at hl
  split at hl
  · rename_i ra rb rc ps t2 t3 hno
    cases hl
    have hno := normW_norm hno
    refine ⟨_, _, ?_, .enter hno ?_⟩
    · decide
    have main := fun y h => LB_run (x := (⟨t3⟩ : S33a)) (y := y) (nb := 0) (fun y => by cases y <;> simp [ou33a]) (rnd33a ra rb rc ps t2) h
    obtain ⟨x, hx, hg, rfl, rfl⟩ := chosen_any hch
    simp only [List.mem_cons, List.not_mem_nil, or_false] at hx
    rcases hx with rfl | rfl
    · exact main _ (is33a_0 ra rb rc ps t2 t3 hg)
    · exact main _ (is33a_1 ra rb rc ps t2 t3 hg)
  · cases hl
theorem is33b_0 (ra : Int) (rb : Int) (rc : Int) (ps : List (List AV)) (t2 : Int) (t6 : Int) (h : i33b_0 ra rb rc ps t2 t6 = true) : r33b ra rb rc ps t2 t6 = some (.x0 (v33b_0_t2' ra rb rc ps t2 t6) (v33b_0_t6 ra rb rc ps t2 t6)) := by
  unfold i33b_0 at h
  unfold v33b_0_t2' v33b_0_t6
  generalize r33b ra rb rc ps t2 t6 = r at h ⊢
  rcases r with _ | y
  · cases h
  · cases y <;> first | rfl | cases h
theorem is33b_1 (ra : Int) (rb : Int) (rc : Int) (ps : List (List AV)) (t2 : Int) (t6 : Int) (h : i33b_1 ra rb rc ps t2 t6 = true) : r33b ra rb rc ps t2 t6 = some (.x1 (v33b_1_t6 ra rb rc ps t2 t6)) := by
  unfold i33b_1 at h
  unfold v33b_1_t6
  generalize r33b ra rb rc ps t2 t6 = r at h ⊢
  rcases r with _ | y
  · cases h
  · cases y <;> first | rfl | cases h
theorem round33b (ra : Int) (rb : Int) (rc : Int) (ps : List (List AV)) (t2 : Int) (t6 : Int) : round Try.prog Se (ro 33) L33 lp33b [false, true, false, true, true, true, true] [(1, none), (2, none), (6, none)] 0 (s33b ra rb rc ps t2 t6) =
    cond (decide (t6 < (↑ps.length : Int))) (cond (inb t6 ps.length) (cond (g57 (fI (ps.getD t6.toNat []) 4) 0 (IntKind.i64.wrap ((↑ps.length : Int) - 1))) (cond (!w57_0 (fI (ps.getD t6.toNat []) 4) 0 (IntKind.i64.wrap ((↑ps.length : Int) - 1))) (some (.ret, o33b_0 ra rb rc ps t2 7 t6)) (cond (inb (fI (ps.getD t6.toNat []) 4) ps.length) (cond (fI (ps.getD (fI (ps.getD t6.toNat []) 4).toNat []) 4 != t6) (some (.ret, o33b_0 ra rb rc ps t2 10 t6)) (cond (fI (ps.getD (fI (ps.getD t6.toNat []) 4).toNat []) 1 != fI (ps.getD t6.toNat []) 1) (some (.ret, o33b_0 ra rb rc ps t2 10 t6)) (cond (fI (ps.getD (fI (ps.getD t6.toNat []) 4).toNat []) 2 != fI (ps.getD t6.toNat []) 3) (some (.ret, o33b_0 ra rb rc ps t2 10 t6)) (cond (fI (ps.getD (fI (ps.getD t6.toNat []) 4).toNat []) 3 != fI (ps.getD t6.toNat []) 2) (some (.ret, o33b_0 ra rb rc ps t2 10 t6)) (some (.nrm, s33b ra rb rc ps t2 (IntKind.i64.wrap (t6 + 1)))))))) (none))) (none)) (none)) (some (.ext 4, o33b_1 ra rb rc ps t2 t6)) := by kernel_rfl
theorem rnd33b (ra : Int) (rb : Int) (rc : Int) (ps : List (List AV)) (t2 : Int) (x : S33b) : round Try.prog Se (ro 33) L33 lp33b [false, true, false, true, true, true, true] [(1, none), (2, none), (6, none)] 0 ((fun x => s33b ra rb rc ps t2 x.t6) x) = toR (fun x => s33b ra rb rc ps t2 x.t6) (ou33b ra rb rc ps t2) (stp33b ra rb rc ps t2 x.t6) := by
  refine (round33b _ _ _ _ _ _ ).trans ?_
  unfold stp33b
  simp only [toR_cond]
  rfl
theorem lok33b {st : St} {outs : List (Bool × Ex × St)} {e : Ex} {s : St} (hl : l33b st = some outs) (hch : Chosen outs e s) :
    ∃ keep nb, 0 ≤ nb ∧ LB Try.prog Se (ro 33) L33 lp33b [false, true, false, true, true, true, true] keep nb st e s := by
  unfold l33b at hl
  split at hl
  · rename_i ra rb rc ps t2 t6 hno
    cases hl
    have hno := normW_norm hno
    refine ⟨_, _, ?_, .enter hno ?_⟩
    · decide
    have main := fun y h => LB_run (x := (⟨t6⟩ : S33b)) (y := y) (nb := 0) (fun y => by cases y <;> simp [ou33b]) (rnd33b ra rb rc ps t2) h
    obtain ⟨x, hx, hg, rfl, rfl⟩ := chosen_any hch
    simp only [List.mem_cons, List.not_mem_nil, or_false] at hx
    rcases hx with rfl | rfl
    · exact main _ (is33b_0 ra rb rc ps t2 t6 hg)
    · exact main _ (is33b_1 ra rb rc ps t2 t6 hg)
  · cases hl
theorem L33_ok (q : Pl) (c : Code) (hq : locate c33 q.reverse = some (.loop c)) (st : St) (outs : List (Bool × Ex × St)) (e : Ex) (s : St) (hl : L33 q st = some outs) (hch : Chosen outs e s) :
    ∃ keep nb, 0 ≤ nb ∧ LB Try.prog Se (ro 33) L33 c q keep nb st e s := by
  unfold L33 at hl
  split at hl
  · have : locate c33 ([false, true, false, true, true, false, false, true, false, false, true, false, true, true, true] : Pl).reverse = some (.loop lp33aa) := by kernel_rfl
    rw [this] at hq
    cases hq
    exact lok33aa hl hch
  · have : locate c33 ([false, true, false, true, true, true] : Pl).reverse = some (.loop lp33a) := by kernel_rfl
    rw [this] at hq
    cases hq
    exact lok33a hl hch
  · have : locate c33 ([false, true, false, true, true, true, true] : Pl).reverse = some (.loop lp33b) := by kernel_rfl
    rw [this] at hq
    cases hq
    exact lok33b hl hch
  · cases hl
theorem lok33 : LOK Try.prog Se (ro 33) L33 0 false c33 [] :=
  lok_lo L33_ok c33 [] false (locate_nil _) (by kernel_rfl)
noncomputable def t33 (ra rb rc : Int) (ps : List (List AV)) : Tr ((Int)) :=
  .cn (g57 ra 0 2000) (.cn (!w57_0 ra 0 2000) (.lf (1)) (.cn (g57 rb 0 9) (.cn (!w57_0 rb 0 9) (.lf (1)) (.cn (g57 rc 0 9) (.cn (!w57_0 rc 0 9) (.lf (1)) (.cn (decide ((↑ps.length : Int) > 10)) (.lf (3)) (.cn (i33a_0 ra rb rc ps 0 0) (.lf (v33a_0_t2' ra rb rc ps 0 0)) (.cn (i33a_1 ra rb rc ps 0 0) (.cn (i33b_0 ra rb rc ps 0 0) (.lf (v33b_0_t2' ra rb rc ps 0 0)) (.cn (i33b_1 ra rb rc ps 0 0) (.lf (0)) (.nn))) (.nn))))) (.nn))) (.nn))) (.nn)
noncomputable def g33 (ra rb rc : Int) (ps : List (List AV)) : Bool := (t33 ra rb rc ps).g
noncomputable def w33_0 (ra rb rc : Int) (ps : List (List AV)) : Int := (t33 ra rb rc ps).val
theorem eq33 (ra rb rc : Int) (ps : List (List AV)) : evF Try.prog Se (ro 33) L33 Try.f33 [.agg [.i .i64 ra, .i .i64 rb, .i .i64 rc, .rs 31 ps]] = (t33 ra rb rc ps).opt (fun (x : (Int)) => (.i .i64 x : AV)) := by kernel_rfl
theorem con33 (ra rb rc : Int) (ps : List (List AV)) (h : g33 ra rb rc ps = true) : Con Try.prog 33 [.agg [.i .i64 ra, .i .i64 rb, .i .i64 rc, .rs 31 ps]] [] (.i .i64 (w33_0 ra rb rc ps)) [] :=
  con_of Se_ok mixed Try.func33 (c := c33) rfl (names 33 _ Try.func33) lok33 ((eq33 ra rb rc ps).trans (Tr.sound _ _ h))
noncomputable def e33 (args : List AV) (rows : List Blk) : Option (Bool × AV × List Blk) := match args, rows with
  | [.agg [.i .i64 ra, .i .i64 rb, .i .i64 rc, .rs 31 ps]], [] => some (g33 ra rb rc ps, .i .i64 (w33_0 ra rb rc ps), [])
  | _, _ => none
theorem e33_ok (args : List AV) (rows : List Blk) (pre : Bool) (v : AV) (rows' : List Blk) (h : e33 args rows = some (pre, v, rows')) (hp : pre = true) : Con Try.prog 33 args rows v rows' := by
  unfold e33 at h
  split at h
  · cases h; exact con33 _ _ _ _ hp
  · cases h
-- SPEC 33
end Go.Proofs.Ytgifjphinkbcaaa

set_option maxRecDepth 100000
set_option linter.unusedVariables false
namespace Go.Proofs.Ytgifjphinkbcaaa
open Go Go.Ev
noncomputable def Sf : Ev.Spec := insS 33 e33 (insS 29 e29 (Se))
theorem Sf_ok : SpecOK Try.prog Sf := insS_ok e33_ok (insS_ok e29_ok (Se_ok))
end Go.Proofs.Ytgifjphinkbcaaa

set_option maxRecDepth 100000
set_option linter.unusedVariables false
namespace Go.Proofs.Ytgifjphinkbcaaa
open Go Go.Ev

/-! ### counted -/
noncomputable def c50 : Code := match Try.f50.body with | some c => c | _ => .skip
theorem lok50 : LOK Try.prog Sf (ro 50) (fun _ _ => none) 0 false c50 [] :=
  lok_lo (fun _ _ _ _ _ _ _ h _ => by cases h) c50 [] false (locate_nil _) (by kernel_rfl)
noncomputable def t50 (ra rb rc : Int) (ps : List (List AV)) : Tr ((List (List AV)) × (Int)) :=
  .cn (g29 ra rb rc ps) (.cn (w29_0 ra rb rc ps != 0) (.lf ([], w29_0 ra rb rc ps)) (.cn (g81 ra rb rc ps) (.cn (g51 (w81_0 ra rb rc ps) (w52_0 ra rb rc ps) (w52_1 ra rb rc ps)) (.cn (decide (w51_0 (w81_0 ra rb rc ps) (w52_0 ra rb rc ps) (w52_1 ra rb rc ps) > 1000000000000000)) (.lf ([], 3)) (.lf (w81_0 ra rb rc ps, 0))) (.nn)) (.nn))) (.nn)
noncomputable def g50 (ra rb rc : Int) (ps : List (List AV)) : Bool := (t50 ra rb rc ps).g
noncomputable def w50_0 (ra rb rc : Int) (ps : List (List AV)) : List (List AV) := (t50 ra rb rc ps).val.1
noncomputable def w50_1 (ra rb rc : Int) (ps : List (List AV)) : Int := (t50 ra rb rc ps).val.2
noncomputable def a50 (ra rb rc : Int) (ps : List (List AV)) : Tr AV :=
  .cn (g29 ra rb rc ps) (.cn (w29_0 ra rb rc ps != 0) (.lf (.tup [.nl, .i .i64 (w29_0 ra rb rc ps)])) (.cn (g81 ra rb rc ps) (.cn (g51 (w81_0 ra rb rc ps) (w52_0 ra rb rc ps) (w52_1 ra rb rc ps)) (.cn (decide (w51_0 (w81_0 ra rb rc ps) (w52_0 ra rb rc ps) (w52_1 ra rb rc ps) > 1000000000000000)) (.lf (.tup [.nl, .i .i64 3])) (.lf (.tup [.rs 91 (w81_0 ra rb rc ps), .i .i64 0]))) (.nn)) (.nn))) (.nn)
theorem eq50 (ra rb rc : Int) (ps : List (List AV)) : evF Try.prog Sf (ro 50) (fun _ _ => none) Try.f50 [.agg [.i .i64 ra, .i .i64 rb, .i .i64 rc, .rs 31 ps]] = (a50 ra rb rc ps).opt id := by kernel_rfl
theorem wk50 (ra rb rc : Int) (ps : List (List AV)) : (a50 ra rb rc ps).map (wkV [some 91, none]) = (t50 ra rb rc ps).map (fun (x : (List (List AV)) × (Int)) => (.tup [.rs 91 x.1, .i .i64 x.2] : AV)) := by kernel_rfl
theorem con50 (ra rb rc : Int) (ps : List (List AV)) (h : g50 ra rb rc ps = true) : Con Try.prog 50 [.agg [.i .i64 ra, .i .i64 rb, .i .i64 rc, .rs 31 ps]] [] (.tup [.rs 91 (w50_0 ra rb rc ps), .i .i64 (w50_1 ra rb rc ps)]) [] := by
  obtain ⟨v, h1, h2⟩ := Tr.soundW (eq50 ra rb rc ps) (wk50 ra rb rc ps) h
  have := (con_of Sf_ok mixed Try.func50 (c := c50) rfl (names 50 _ Try.func50) lok50 h1).wk [some 91, none]
  rw [h2] at this
  exact this
noncomputable def e50 (args : List AV) (rows : List Blk) : Option (Bool × AV × List Blk) := match args, rows with
  | [.agg [.i .i64 ra, .i .i64 rb, .i .i64 rc, .rs 31 ps]], [] => some (g50 ra rb rc ps, .tup [.rs 91 (w50_0 ra rb rc ps), .i .i64 (w50_1 ra rb rc ps)], [])
  | _, _ => none
theorem e50_ok (args : List AV) (rows : List Blk) (pre : Bool) (v : AV) (rows' : List Blk) (h : e50 args rows = some (pre, v, rows')) (hp : pre = true) : Con Try.prog 50 args rows v rows' := by
  unfold e50 at h
  split at h
  · cases h; exact con50 _ _ _ _ hp
  · cases h
-- SPEC 50
end Go.Proofs.Ytgifjphinkbcaaa

set_option maxRecDepth 100000
set_option linter.unusedVariables false
namespace Go.Proofs.Ytgifjphinkbcaaa
open Go Go.Ev

/-! ### table -/
noncomputable def c87 : Code := match Try.f87.body with | some c => c | _ => .skip
noncomputable def lp87a : Code := loopAt c87 [true, true, true, false, true, false]
noncomputable def s87a (ra : Int) (rb : Int) (rc : Int) (ps : List (List AV)) (t3 : Nat) (t4 : Int) (m5 : List (List AV)) : St :=
  { t := [(1, .rp [.int .i64, .int .i64, .int .i64, .sl 31] [.i .i64 ra, .i .i64 rb, .i .i64 rc, .rs 31 ps] 0), (2, .nl), (3, .sl 5 0 t3), (4, .i .i64 t4)], m := [(0, .dead), (1, .dead), (2, .dead), (3, .dead), (4, .dead), (5, .row 91 m5)], nx := 6, nt := 64 }
noncomputable def lp87aa : Code := loopAt c87 [true, true, true, false, true, false, false, true, false, false, true, false]
noncomputable def s87aa (ra : Int) (rb : Int) (rc : Int) (ps : List (List AV)) (t3 : Nat) (t4 : Int) (t5 : Int) (m5 : List (List AV)) : St :=
  { t := [(1, .rp [.int .i64, .int .i64, .int .i64, .sl 31] [.i .i64 ra, .i .i64 rb, .i .i64 rc, .rs 31 ps] 0), (2, .nl), (3, .sl 5 0 t3), (4, .i .i64 t4), (5, .i .i64 t5)], m := [(0, .dead), (1, .dead), (2, .dead), (3, .dead), (4, .dead), (5, .row 91 m5)], nx := 6, nt := 64 }
structure S87aa where
  t5 : Int
  m5 : List (List AV)
inductive T87aa where
  | x0 (t5 : Int) (m5 : List (List AV))
noncomputable def stp87aa (ra : Int) (rb : Int) (rc : Int) (ps : List (List AV)) (t3 : Nat) (t4 : Int) (t5 : Int) (m5 : List (List AV)) : Lp S87aa T87aa :=
  cond (decide (t5 < (↑ps.length : Int))) (cond (inb t5 ps.length) (cond (decide (fI (ps.getD t5.toNat []) 1 ≤ t4)) (cond (inb t4 t3 && (0 + t4.toNat).blt m5.length) (cond (inb (fI (ps.getD t5.toNat []) 2) 10) (cond (ctsAt (cts Try.prog 91) (0 + (fI (ps.getD t5.toNat []) 2).toNat * 1) (cts Try.prog 3) && (0 + t4.toNat).blt m5.length) (cond (inb (IntKind.i64.wrap (t4 - fI (ps.getD t5.toNat []) 1)) t3 && (0 + (IntKind.i64.wrap (t4 - fI (ps.getD t5.toNat []) 1)).toNat).blt m5.length) (cond (inb (fI (ps.getD t5.toNat []) 3) 10) (cond (ctsAt (cts Try.prog 91) (0 + (fI (ps.getD t5.toNat []) 3).toNat * 1) (cts Try.prog 3) && (0 + (IntKind.i64.wrap (t4 - fI (ps.getD t5.toNat []) 1)).toNat).blt m5.length) (cond (inb t4 t3 && (0 + t4.toNat).blt m5.length) (cond (inb (fI (ps.getD t5.toNat []) 2) 10) (cond (ctsAt (cts Try.prog 91) (0 + (fI (ps.getD t5.toNat []) 2).toNat * 1) (cts Try.prog 3) && (0 + t4.toNat).blt m5.length) (.go ⟨IntKind.i64.wrap (t5 + 1), m5.set (0 + t4.toNat) (setCs (m5.getD (0 + t4.toNat) []) (0 + (fI (ps.getD t5.toNat []) 2).toNat * 1) [AV.i IntKind.i64 (bmin 1000000000000001 (IntKind.i64.wrap (toI ((m5.getD (0 + t4.toNat) []).getD (0 + (fI (ps.getD t5.toNat []) 2).toNat * 1) AV.u) + toI ((m5.getD (0 + (IntKind.i64.wrap (t4 - fI (ps.getD t5.toNat []) 1)).toNat) []).getD (0 + (fI (ps.getD t5.toNat []) 3).toNat * 1) AV.u))))])⟩) (.bad)) (.bad)) (.bad)) (.bad)) (.bad)) (.bad)) (.bad)) (.bad)) (.bad)) (.go ⟨IntKind.i64.wrap (t5 + 1), m5⟩)) (.bad)) (.out (.x0 t5 m5))
noncomputable def o87aa_0 (ra : Int) (rb : Int) (rc : Int) (ps : List (List AV)) (t3 : Nat) (t4 : Int) (t5 : Int) (m5 : List (List AV)) : St :=
  { t := [(1, .rp [.int .i64, .int .i64, .int .i64, .sl 31] [.i .i64 ra, .i .i64 rb, .i .i64 rc, .rs 31 ps] 0), (2, .nl), (3, .sl 5 0 t3), (4, .i .i64 t4), (5, .i .i64 t5)], m := [(0, .dead), (1, .dead), (2, .dead), (3, .dead), (4, .dead), (5, .row 91 m5)], nx := 6, nt := 64 }
noncomputable def ou87aa (ra : Int) (rb : Int) (rc : Int) (ps : List (List AV)) (t3 : Nat) (t4 : Int) : T87aa → Ex × St
  | .x0 t5 m5 => (.ext 2, o87aa_0 ra rb rc ps t3 t4 t5 m5)
noncomputable def r87aa (ra : Int) (rb : Int) (rc : Int) (ps : List (List AV)) (t3 : Nat) (t4 : Int) (t5 : Int) (m5 : List (List AV)) : Option T87aa := run (fun x => stp87aa ra rb rc ps t3 t4 x.t5 x.m5) (⟨t5, m5⟩ : S87aa)
noncomputable def i87aa_0 (ra : Int) (rb : Int) (rc : Int) (ps : List (List AV)) (t3 : Nat) (t4 : Int) (t5 : Int) (m5 : List (List AV)) : Bool := match r87aa ra rb rc ps t3 t4 t5 m5 with
  | some (.x0 _ _) => true
  | _ => false
noncomputable def v87aa_0_t5 (ra : Int) (rb : Int) (rc : Int) (ps : List (List AV)) (t3 : Nat) (t4 : Int) (t5 : Int) (m5 : List (List AV)) : Int := match r87aa ra rb rc ps t3 t4 t5 m5 with
  | some (.x0 t5 _) => t5
  | _ => default
noncomputable def v87aa_0_m5 (ra : Int) (rb : Int) (rc : Int) (ps : List (List AV)) (t3 : Nat) (t4 : Int) (t5 : Int) (m5 : List (List AV)) : List (List AV) := match r87aa ra rb rc ps t3 t4 t5 m5 with
  | some (.x0 _ m5) => m5
  | _ => default
noncomputable def l87aa (st : St) : Option (List (Bool × Ex × St)) := match normW Try.prog [(1, none), (2, none), (3, none), (4, none), (5, none)] 6 st with
  | some ([.rp [.int .i64, .int .i64, .int .i64, .sl 31] [.i .i64 ra, .i .i64 rb, .i .i64 rc, .rs 31 ps] 0, .nl, .sl 5 0 t3, .i .i64 t4, .i .i64 t5], [(0, .dead), (1, .dead), (2, .dead), (3, .dead), (4, .dead), (5, .row 91 m5)], 6, 64) => some [(i87aa_0 ra rb rc ps t3 t4 t5 m5, .ext 2, o87aa_0 ra rb rc ps t3 t4 (v87aa_0_t5 ra rb rc ps t3 t4 t5 m5) (v87aa_0_m5 ra rb rc ps t3 t4 t5 m5))]
  | _ => none
structure S87a where
  t4 : Int
  m5 : List (List AV)
inductive T87a where
  | x0 (t4 : Int) (m5 : List (List AV))
noncomputable def stp87a (ra : Int) (rb : Int) (rc : Int) (ps : List (List AV)) (t3 : Nat) (t4 : Int) (m5 : List (List AV)) : Lp S87a T87a :=
  cond (decide (t4 ≤ ra)) (cond (i87aa_0 ra rb rc ps t3 t4 0 m5) (.go ⟨IntKind.i64.wrap (t4 + 1), v87aa_0_m5 ra rb rc ps t3 t4 0 m5⟩) (.bad)) (.out (.x0 t4 m5))
noncomputable def o87a_0 (ra : Int) (rb : Int) (rc : Int) (ps : List (List AV)) (t3 : Nat) (t4 : Int) (m5 : List (List AV)) : St :=
  { t := [(1, .rp [.int .i64, .int .i64, .int .i64, .sl 31] [.i .i64 ra, .i .i64 rb, .i .i64 rc, .rs 31 ps] 0), (2, .nl), (3, .sl 5 0 t3), (4, .i .i64 t4)], m := [(0, .dead), (1, .dead), (2, .dead), (3, .dead), (4, .dead), (5, .row 91 m5)], nx := 6, nt := 64 }
noncomputable def ou87a (ra : Int) (rb : Int) (rc : Int) (ps : List (List AV)) (t3 : Nat) : T87a → Ex × St
  | .x0 t4 m5 => (.ext 0, o87a_0 ra rb rc ps t3 t4 m5)
noncomputable def r87a (ra : Int) (rb : Int) (rc : Int) (ps : List (List AV)) (t3 : Nat) (t4 : Int) (m5 : List (List AV)) : Option T87a := run (fun x => stp87a ra rb rc ps t3 x.t4 x.m5) (⟨t4, m5⟩ : S87a)
noncomputable def i87a_0 (ra : Int) (rb : Int) (rc : Int) (ps : List (List AV)) (t3 : Nat) (t4 : Int) (m5 : List (List AV)) : Bool := match r87a ra rb rc ps t3 t4 m5 with
  | some (.x0 _ _) => true
  | _ => false
noncomputable def v87a_0_t4 (ra : Int) (rb : Int) (rc : Int) (ps : List (List AV)) (t3 : Nat) (t4 : Int) (m5 : List (List AV)) : Int := match r87a ra rb rc ps t3 t4 m5 with
  | some (.x0 t4 _) => t4
  | _ => default
noncomputable def v87a_0_m5 (ra : Int) (rb : Int) (rc : Int) (ps : List (List AV)) (t3 : Nat) (t4 : Int) (m5 : List (List AV)) : List (List AV) := match r87a ra rb rc ps t3 t4 m5 with
  | some (.x0 _ m5) => m5
  | _ => default
noncomputable def l87a (st : St) : Option (List (Bool × Ex × St)) := match normW Try.prog [(1, none), (2, none), (3, none), (4, none)] 6 st with
  | some ([.rp [.int .i64, .int .i64, .int .i64, .sl 31] [.i .i64 ra, .i .i64 rb, .i .i64 rc, .rs 31 ps] 0, .nl, .sl 5 0 t3, .i .i64 t4], [(0, .dead), (1, .dead), (2, .dead), (3, .dead), (4, .dead), (5, .row 91 m5)], 6, 64) => some [(i87a_0 ra rb rc ps t3 t4 m5, .ext 0, o87a_0 ra rb rc ps t3 (v87a_0_t4 ra rb rc ps t3 t4 m5) (v87a_0_m5 ra rb rc ps t3 t4 m5))]
  | _ => none
noncomputable def L87 : LSpec := fun p st => match p with
  | [false, true, false, false, true, false, false, true, false, true, true, true] => l87aa st
  | [false, true, false, true, true, true] => l87a st
  | _ => none
theorem is87aa_0 (ra : Int) (rb : Int) (rc : Int) (ps : List (List AV)) (t3 : Nat) (t4 : Int) (t5 : Int) (m5 : List (List AV)) (h : i87aa_0 ra rb rc ps t3 t4 t5 m5 = true) : r87aa ra rb rc ps t3 t4 t5 m5 = some (.x0 (v87aa_0_t5 ra rb rc ps t3 t4 t5 m5) (v87aa_0_m5 ra rb rc ps t3 t4 t5 m5)) := by
  unfold i87aa_0 at h
  unfold v87aa_0_t5 v87aa_0_m5
  generalize r87aa ra rb rc ps t3 t4 t5 m5 = r at h ⊢
  rcases r with _ | y
  · cases h
  · cases y <;> first | rfl | cases h
theorem round87aa (ra : Int) (rb : Int) (rc : Int) (ps : List (List AV)) (t3 : Nat) (t4 : Int) (t5 : Int) (m5 : List (List AV)) : round Try.prog Se (ro 87) L87 lp87aa [false, true, false, false, true, false, false, true, false, true, true, true] [(1, none), (2, none), (3, none), (4, none), (5, none)] 6 (s87aa ra rb rc ps t3 t4 t5 m5) =
    cond (decide (t5 < (↑ps.length : Int))) (cond (inb t5 ps.length) (cond (decide (fI (ps.getD t5.toNat []) 1 ≤ t4)) (cond (inb t4 t3 && (0 + t4.toNat).blt m5.length) (cond (inb (fI (ps.getD t5.toNat []) 2) 10) (cond (ctsAt (cts Try.prog 91) (0 + (fI (ps.getD t5.toNat []) 2).toNat * 1) (cts Try.prog 3) && (0 + t4.toNat).blt m5.length) (cond (inb (IntKind.i64.wrap (t4 - fI (ps.getD t5.toNat []) 1)) t3 && (0 + (IntKind.i64.wrap (t4 - fI (ps.getD t5.toNat []) 1)).toNat).blt m5.length) (cond (inb (fI (ps.getD t5.toNat []) 3) 10) (cond (ctsAt (cts Try.prog 91) (0 + (fI (ps.getD t5.toNat []) 3).toNat * 1) (cts Try.prog 3) && (0 + (IntKind.i64.wrap (t4 - fI (ps.getD t5.toNat []) 1)).toNat).blt m5.length) (cond (inb t4 t3 && (0 + t4.toNat).blt m5.length) (cond (inb (fI (ps.getD t5.toNat []) 2) 10) (cond (ctsAt (cts Try.prog 91) (0 + (fI (ps.getD t5.toNat []) 2).toNat * 1) (cts Try.prog 3) && (0 + t4.toNat).blt m5.length) (some (.nrm, s87aa ra rb rc ps t3 t4 (IntKind.i64.wrap (t5 + 1)) (m5.set (0 + t4.toNat) (setCs (m5.getD (0 + t4.toNat) []) (0 + (fI (ps.getD t5.toNat []) 2).toNat * 1) [AV.i IntKind.i64 (bmin 1000000000000001 (IntKind.i64.wrap (toI ((m5.getD (0 + t4.toNat) []).getD (0 + (fI (ps.getD t5.toNat []) 2).toNat * 1) AV.u) + toI ((m5.getD (0 + (IntKind.i64.wrap (t4 - fI (ps.getD t5.toNat []) 1)).toNat) []).getD (0 + (fI (ps.getD t5.toNat []) 3).toNat * 1) AV.u))))])))) (none)) (none)) (none)) (none)) (none)) (none)) (none)) (none)) (none)) (some (.nrm, s87aa ra rb rc ps t3 t4 (IntKind.i64.wrap (t5 + 1)) m5))) (none)) (some (.ext 2, o87aa_0 ra rb rc ps t3 t4 t5 m5)) := by kernel_rfl
theorem rnd87aa (ra : Int) (rb : Int) (rc : Int) (ps : List (List AV)) (t3 : Nat) (t4 : Int) (x : S87aa) : round Try.prog Se (ro 87) L87 lp87aa [false, true, false, false, true, false, false, true, false, true, true, true] [(1, none), (2, none), (3, none), (4, none), (5, none)] 6 ((fun x => s87aa ra rb rc ps t3 t4 x.t5 x.m5) x) = toR (fun x => s87aa ra rb rc ps t3 t4 x.t5 x.m5) (ou87aa ra rb rc ps t3 t4) (stp87aa ra rb rc ps t3 t4 x.t5 x.m5) := by
  refine (round87aa _ _ _ _ _ _ _ _ ).trans ?_
  unfold stp87aa
  simp only [toR_cond]
  rfl
theorem lok87aa {st : St} {outs : List (Bool × Ex × St)} {e : Ex} {s : St} (hl : l87aa st = some outs) (hch : Chosen outs e s) :
    ∃ keep nb, 0 ≤ nb ∧ LB Try.prog Se (ro 87) L87 lp87aa [false, true, false, false, true, false, false, true, false, true, true, true] keep nb st e s := by
  unfold l87aa at hl
  split at hl
  · rename_i ra rb rc ps t3 t4 t5 m5 hno
    cases hl
    have hno := normW_norm hno
    refine ⟨_, _, ?_, .enter hno ?_⟩
    · decide
    have main := fun y h => LB_run (x := (⟨t5, m5⟩ : S87aa)) (y := y) (nb := 6) (fun y => by cases y <;> simp [ou87aa]) (rnd87aa ra rb rc ps t3 t4) h
    obtain ⟨x, hx, hg, rfl, rfl⟩ := chosen_any hch
    simp only [List.mem_cons, List.not_mem_nil, or_false] at hx
    subst hx
    exact main _ (is87aa_0 ra rb rc ps t3 t4 t5 m5 hg)
  · cases hl
theorem is87a_0 (ra : Int) (rb : Int) (rc : Int) (ps : List (List AV)) (t3 : Nat) (t4 : Int) (m5 : List (List AV)) (h : i87a_0 ra rb rc ps t3 t4 m5 = true) : r87a ra rb rc ps t3 t4 m5 = some (.x0 (v87a_0_t4 ra rb rc ps t3 t4 m5) (v87a_0_m5 ra rb rc ps t3 t4 m5)) := by
  unfold i87a_0 at h
  unfold v87a_0_t4 v87a_0_m5
  generalize r87a ra rb rc ps t3 t4 m5 = r at h ⊢
  rcases r with _ | y
  · cases h
  · cases y <;> first | rfl | cases h
theorem round87a (ra : Int) (rb : Int) (rc : Int) (ps : List (List AV)) (t3 : Nat) (t4 : Int) (m5 : List (List AV)) : round Try.prog Se (ro 87) L87 lp87a [false, true, false, true, true, true] [(1, none), (2, none), (3, none), (4, none)] 6 (s87a ra rb rc ps t3 t4 m5) =
    cond (decide (t4 ≤ ra)) (cond (i87aa_0 ra rb rc ps t3 t4 0 m5) (some (.nrm, s87a ra rb rc ps t3 (IntKind.i64.wrap (t4 + 1)) (v87aa_0_m5 ra rb rc ps t3 t4 0 m5))) (none)) (some (.ext 0, o87a_0 ra rb rc ps t3 t4 m5)) := by kernel_rfl
theorem rnd87a (ra : Int) (rb : Int) (rc : Int) (ps : List (List AV)) (t3 : Nat) (x : S87a) : round Try.prog Se (ro 87) L87 lp87a [false, true, false, true, true, true] [(1, none), (2, none), (3, none), (4, none)] 6 ((fun x => s87a ra rb rc ps t3 x.t4 x.m5) x) = toR (fun x => s87a ra rb rc ps t3 x.t4 x.m5) (ou87a ra rb rc ps t3) (stp87a ra rb rc ps t3 x.t4 x.m5) := by
  refine (round87a _ _ _ _ _ _ _ ).trans ?_
  unfold stp87a
  simp only [toR_cond]
  rfl
theorem lok87a {st : St} {outs : List (Bool × Ex × St)} {e : Ex} {s : St} (hl : l87a st = some outs) (hch : Chosen outs e s) :
    ∃ keep nb, 0 ≤ nb ∧ LB Try.prog Se (ro 87) L87 lp87a [false, true, false, true, true, true] keep nb st e s := by
  unfold l87a at hl
  split at hl
  · rename_i ra rb rc ps t3 t4 m5 hno
    cases hl
    have hno := normW_norm hno
    refine ⟨_, _, ?_, .enter hno ?_⟩
    · decide
    have main := fun y h => LB_run (x := (⟨t4, m5⟩ : S87a)) (y := y) (nb := 6) (fun y => by cases y <;> simp [ou87a]) (rnd87a ra rb rc ps t3) h
    obtain ⟨x, hx, hg, rfl, rfl⟩ := chosen_any hch
    simp only [List.mem_cons, List.not_mem_nil, or_false] at hx
    subst hx
    exact main _ (is87a_0 ra rb rc ps t3 t4 m5 hg)
  · cases hl
theorem L87_ok (q : Pl) (c : Code) (hq : locate c87 q.reverse = some (.loop c)) (st : St) (outs : List (Bool × Ex × St)) (e : Ex) (s : St) (hl : L87 q st = some outs) (hch : Chosen outs e s) :
    ∃ keep nb, 0 ≤ nb ∧ LB Try.prog Se (ro 87) L87 c q keep nb st e s := by
  unfold L87 at hl
  split at hl
  · have : locate c87 ([false, true, false, false, true, false, false, true, false, true, true, true] : Pl).reverse = some (.loop lp87aa) := by kernel_rfl
    rw [this] at hq
    cases hq
    exact lok87aa hl hch
  · have : locate c87 ([false, true, false, true, true, true] : Pl).reverse = some (.loop lp87a) := by kernel_rfl
    rw [this] at hq
    cases hq
    exact lok87a hl hch
  · cases hl
theorem lok87 : LOK Try.prog Se (ro 87) L87 0 false c87 [] :=
  lok_lo L87_ok c87 [] false (locate_nil _) (by kernel_rfl)
noncomputable def t87 (ra rb rc : Int) (ps : List (List AV)) : Tr ((List (List AV))) :=
  .cn (decide (IntKind.i64.wrap (ra + 1) = IntKind.i64.wrap (ra + 1)) && (decide (0 ≤ IntKind.i64.wrap (ra + 1)) && decide (IntKind.i64.wrap (ra + 1) * (↑80 : Int) ≤ 140737488355328) && decide (IntKind.i64.wrap (ra + 1) ≤ 9223372036854775807))) (.cn (inb 0 (IntKind.i64.wrap (ra + 1)).toNat && Nat.blt 0 (List.replicate (IntKind.i64.wrap (ra + 1)).toNat [AV.i IntKind.i64 0, AV.i IntKind.i64 0, AV.i IntKind.i64 0, AV.i IntKind.i64 0, AV.i IntKind.i64 0, AV.i IntKind.i64 0, AV.i IntKind.i64 0, AV.i IntKind.i64 0, AV.i IntKind.i64 0, AV.i IntKind.i64 0]).length) (.cn (inb rc 10) (.cn (ctsAt (cts Try.prog 91) (0 + rc.toNat * 1) (cts Try.prog 3) && Nat.blt 0 (List.replicate (IntKind.i64.wrap (ra + 1)).toNat [AV.i IntKind.i64 0, AV.i IntKind.i64 0, AV.i IntKind.i64 0, AV.i IntKind.i64 0, AV.i IntKind.i64 0, AV.i IntKind.i64 0, AV.i IntKind.i64 0, AV.i IntKind.i64 0, AV.i IntKind.i64 0, AV.i IntKind.i64 0]).length) (.cn (i87a_0 ra rb rc ps (IntKind.i64.wrap (ra + 1)).toNat 1 ((List.replicate (IntKind.i64.wrap (ra + 1)).toNat [AV.i IntKind.i64 0, AV.i IntKind.i64 0, AV.i IntKind.i64 0, AV.i IntKind.i64 0, AV.i IntKind.i64 0, AV.i IntKind.i64 0, AV.i IntKind.i64 0, AV.i IntKind.i64 0, AV.i IntKind.i64 0, AV.i IntKind.i64 0]).set 0 (setCs ((List.replicate (IntKind.i64.wrap (ra + 1)).toNat [AV.i IntKind.i64 0, AV.i IntKind.i64 0, AV.i IntKind.i64 0, AV.i IntKind.i64 0, AV.i IntKind.i64 0, AV.i IntKind.i64 0, AV.i IntKind.i64 0, AV.i IntKind.i64 0, AV.i IntKind.i64 0, AV.i IntKind.i64 0]).getD 0 []) (0 + rc.toNat * 1) [AV.i IntKind.i64 1]))) (.cn ((0 + (IntKind.i64.wrap (ra + 1)).toNat).ble (v87a_0_m5 ra rb rc ps (IntKind.i64.wrap (ra + 1)).toNat 1 ((List.replicate (IntKind.i64.wrap (ra + 1)).toNat [AV.i IntKind.i64 0, AV.i IntKind.i64 0, AV.i IntKind.i64 0, AV.i IntKind.i64 0, AV.i IntKind.i64 0, AV.i IntKind.i64 0, AV.i IntKind.i64 0, AV.i IntKind.i64 0, AV.i IntKind.i64 0, AV.i IntKind.i64 0]).set 0 (setCs ((List.replicate (IntKind.i64.wrap (ra + 1)).toNat [AV.i IntKind.i64 0, AV.i IntKind.i64 0, AV.i IntKind.i64 0, AV.i IntKind.i64 0, AV.i IntKind.i64 0, AV.i IntKind.i64 0, AV.i IntKind.i64 0, AV.i IntKind.i64 0, AV.i IntKind.i64 0, AV.i IntKind.i64 0]).getD 0 []) (0 + rc.toNat * 1) [AV.i IntKind.i64 1]))).length) (.lf (bif (IntKind.i64.wrap (ra + 1)).toNat.beq (v87a_0_m5 ra rb rc ps (IntKind.i64.wrap (ra + 1)).toNat 1 ((List.replicate (IntKind.i64.wrap (ra + 1)).toNat [AV.i IntKind.i64 0, AV.i IntKind.i64 0, AV.i IntKind.i64 0, AV.i IntKind.i64 0, AV.i IntKind.i64 0, AV.i IntKind.i64 0, AV.i IntKind.i64 0, AV.i IntKind.i64 0, AV.i IntKind.i64 0, AV.i IntKind.i64 0]).set 0 (setCs ((List.replicate (IntKind.i64.wrap (ra + 1)).toNat [AV.i IntKind.i64 0, AV.i IntKind.i64 0, AV.i IntKind.i64 0, AV.i IntKind.i64 0, AV.i IntKind.i64 0, AV.i IntKind.i64 0, AV.i IntKind.i64 0, AV.i IntKind.i64 0, AV.i IntKind.i64 0, AV.i IntKind.i64 0]).getD 0 []) (0 + rc.toNat * 1) [AV.i IntKind.i64 1]))).length then v87a_0_m5 ra rb rc ps (IntKind.i64.wrap (ra + 1)).toNat 1 ((List.replicate (IntKind.i64.wrap (ra + 1)).toNat [AV.i IntKind.i64 0, AV.i IntKind.i64 0, AV.i IntKind.i64 0, AV.i IntKind.i64 0, AV.i IntKind.i64 0, AV.i IntKind.i64 0, AV.i IntKind.i64 0, AV.i IntKind.i64 0, AV.i IntKind.i64 0, AV.i IntKind.i64 0]).set 0 (setCs ((List.replicate (IntKind.i64.wrap (ra + 1)).toNat [AV.i IntKind.i64 0, AV.i IntKind.i64 0, AV.i IntKind.i64 0, AV.i IntKind.i64 0, AV.i IntKind.i64 0, AV.i IntKind.i64 0, AV.i IntKind.i64 0, AV.i IntKind.i64 0, AV.i IntKind.i64 0, AV.i IntKind.i64 0]).getD 0 []) (0 + rc.toNat * 1) [AV.i IntKind.i64 1])) else List.take (IntKind.i64.wrap (ra + 1)).toNat (List.drop 0 (v87a_0_m5 ra rb rc ps (IntKind.i64.wrap (ra + 1)).toNat 1 ((List.replicate (IntKind.i64.wrap (ra + 1)).toNat [AV.i IntKind.i64 0, AV.i IntKind.i64 0, AV.i IntKind.i64 0, AV.i IntKind.i64 0, AV.i IntKind.i64 0, AV.i IntKind.i64 0, AV.i IntKind.i64 0, AV.i IntKind.i64 0, AV.i IntKind.i64 0, AV.i IntKind.i64 0]).set 0 (setCs ((List.replicate (IntKind.i64.wrap (ra + 1)).toNat [AV.i IntKind.i64 0, AV.i IntKind.i64 0, AV.i IntKind.i64 0, AV.i IntKind.i64 0, AV.i IntKind.i64 0, AV.i IntKind.i64 0, AV.i IntKind.i64 0, AV.i IntKind.i64 0, AV.i IntKind.i64 0, AV.i IntKind.i64 0]).getD 0 []) (0 + rc.toNat * 1) [AV.i IntKind.i64 1])))))) (.nn)) (.nn)) (.nn)) (.nn)) (.nn)) (.nn)
noncomputable def g87 (ra rb rc : Int) (ps : List (List AV)) : Bool := (t87 ra rb rc ps).g
noncomputable def w87_0 (ra rb rc : Int) (ps : List (List AV)) : List (List AV) := (t87 ra rb rc ps).val
theorem eq87 (ra rb rc : Int) (ps : List (List AV)) : evF Try.prog Se (ro 87) L87 Try.f87 [.agg [.i .i64 ra, .i .i64 rb, .i .i64 rc, .rs 31 ps]] = (t87 ra rb rc ps).opt (fun (x : (List (List AV))) => (.rs 91 x : AV)) := by kernel_rfl
theorem con87 (ra rb rc : Int) (ps : List (List AV)) (h : g87 ra rb rc ps = true) : Con Try.prog 87 [.agg [.i .i64 ra, .i .i64 rb, .i .i64 rc, .rs 31 ps]] [] (.rs 91 (w87_0 ra rb rc ps)) [] :=
  con_of Se_ok mixed Try.func87 (c := c87) rfl (names 87 _ Try.func87) lok87 ((eq87 ra rb rc ps).trans (Tr.sound _ _ h))
noncomputable def e87 (args : List AV) (rows : List Blk) : Option (Bool × AV × List Blk) := match args, rows with
  | [.agg [.i .i64 ra, .i .i64 rb, .i .i64 rc, .rs 31 ps]], [] => some (g87 ra rb rc ps, .rs 91 (w87_0 ra rb rc ps), [])
  | _, _ => none
theorem e87_ok (args : List AV) (rows : List Blk) (pre : Bool) (v : AV) (rows' : List Blk) (h : e87 args rows = some (pre, v, rows')) (hp : pre = true) : Con Try.prog 87 args rows v rows' := by
  unfold e87 at h
  split at h
  · cases h; exact con87 _ _ _ _ hp
  · cases h
-- SPEC 87
end Go.Proofs.Ytgifjphinkbcaaa

set_option maxRecDepth 100000
set_option linter.unusedVariables false
namespace Go.Proofs.Ytgifjphinkbcaaa
open Go Go.Ev
noncomputable def Sg : Ev.Spec := insS 87 e87 (insS 50 e50 (Sf))
theorem Sg_ok : SpecOK Try.prog Sg := insS_ok e87_ok (insS_ok e50_ok (Sf_ok))
end Go.Proofs.Ytgifjphinkbcaaa

set_option maxRecDepth 100000
set_option linter.unusedVariables false
namespace Go.Proofs.Ytgifjphinkbcaaa
open Go Go.Ev

/-! ### Ways -/
noncomputable def c20 : Code := match Try.f20.body with | some c => c | _ => .skip
theorem lok20 : LOK Try.prog Sg (ro 20) (fun _ _ => none) 0 false c20 [] :=
  lok_lo (fun _ _ _ _ _ _ _ h _ => by cases h) c20 [] false (locate_nil _) (by kernel_rfl)
noncomputable def t20 (ra rb rc : Int) (ps : List (List AV)) : Tr ((Int) × (Int)) :=
  .cn (g50 ra rb rc ps) (.cn (w50_1 ra rb rc ps != 0) (.lf (0, w50_1 ra rb rc ps)) (.cn (g51 (w50_0 ra rb rc ps) (w52_0 ra rb rc ps) (w52_1 ra rb rc ps)) (.lf (w51_0 (w50_0 ra rb rc ps) (w52_0 ra rb rc ps) (w52_1 ra rb rc ps), 0)) (.nn))) (.nn)
noncomputable def g20 (ra rb rc : Int) (ps : List (List AV)) : Bool := (t20 ra rb rc ps).g
noncomputable def w20_0 (ra rb rc : Int) (ps : List (List AV)) : Int := (t20 ra rb rc ps).val.1
noncomputable def w20_1 (ra rb rc : Int) (ps : List (List AV)) : Int := (t20 ra rb rc ps).val.2
theorem eq20 (ra rb rc : Int) (ps : List (List AV)) : evF Try.prog Sg (ro 20) (fun _ _ => none) Try.f20 [.agg [.i .i64 ra, .i .i64 rb, .i .i64 rc, .rs 31 ps]] = (t20 ra rb rc ps).opt (fun (x : (Int) × (Int)) => (.tup [.i .i64 x.1, .i .i64 x.2] : AV)) := by kernel_rfl
theorem con20 (ra rb rc : Int) (ps : List (List AV)) (h : g20 ra rb rc ps = true) : Con Try.prog 20 [.agg [.i .i64 ra, .i .i64 rb, .i .i64 rc, .rs 31 ps]] [] (.tup [.i .i64 (w20_0 ra rb rc ps), .i .i64 (w20_1 ra rb rc ps)]) [] :=
  con_of Sg_ok mixed Try.func20 (c := c20) rfl (names 20 _ Try.func20) lok20 ((eq20 ra rb rc ps).trans (Tr.sound _ _ h))
noncomputable def e20 (args : List AV) (rows : List Blk) : Option (Bool × AV × List Blk) := match args, rows with
  | [.agg [.i .i64 ra, .i .i64 rb, .i .i64 rc, .rs 31 ps]], [] => some (g20 ra rb rc ps, .tup [.i .i64 (w20_0 ra rb rc ps), .i .i64 (w20_1 ra rb rc ps)], [])
  | _, _ => none
theorem e20_ok (args : List AV) (rows : List Blk) (pre : Bool) (v : AV) (rows' : List Blk) (h : e20 args rows = some (pre, v, rows')) (hp : pre = true) : Con Try.prog 20 args rows v rows' := by
  unfold e20 at h
  split at h
  · cases h; exact con20 _ _ _ _ hp
  · cases h
-- SPEC 20
end Go.Proofs.Ytgifjphinkbcaaa

set_option maxRecDepth 100000
set_option linter.unusedVariables false
namespace Go.Proofs.Ytgifjphinkbcaaa
open Go Go.Ev

/-! ### ref counted -/
noncomputable def c67 : Code := match Try.f67.body with | some c => c | _ => .skip
theorem lok67 : LOK Try.prog Sg (ro 67) (fun _ _ => none) 0 false c67 [] :=
  lok_lo (fun _ _ _ _ _ _ _ h _ => by cases h) c67 [] false (locate_nil _) (by kernel_rfl)
noncomputable def t67 (ra rb rc : Int) (ps : List (List AV)) : Tr ((List (List AV)) × (Int)) :=
  .cn (g33 ra rb rc ps) (.cn (w33_0 ra rb rc ps != 0) (.lf ([], w33_0 ra rb rc ps)) (.cn (g87 ra rb rc ps) (.cn (inb ra (w87_0 ra rb rc ps).length) (.cn (inb rb 10) (.cn (ctsAt (cts Try.prog 91) (0 + rb.toNat * 1) (cts Try.prog 3)) (.cn (decide (toI (((w87_0 ra rb rc ps).getD ra.toNat []).getD (0 + rb.toNat * 1) AV.u) > 1000000000000000)) (.lf ([], 3)) (.lf (w87_0 ra rb rc ps, 0))) (.nn)) (.nn)) (.nn)) (.nn))) (.nn)
noncomputable def g67 (ra rb rc : Int) (ps : List (List AV)) : Bool := (t67 ra rb rc ps).g
noncomputable def w67_0 (ra rb rc : Int) (ps : List (List AV)) : List (List AV) := (t67 ra rb rc ps).val.1
noncomputable def w67_1 (ra rb rc : Int) (ps : List (List AV)) : Int := (t67 ra rb rc ps).val.2
noncomputable def a67 (ra rb rc : Int) (ps : List (List AV)) : Tr AV :=
  .cn (g33 ra rb rc ps) (.cn (w33_0 ra rb rc ps != 0) (.lf (.tup [.nl, .i .i64 (w33_0 ra rb rc ps)])) (.cn (g87 ra rb rc ps) (.cn (inb ra (w87_0 ra rb rc ps).length) (.cn (inb rb 10) (.cn (ctsAt (cts Try.prog 91) (0 + rb.toNat * 1) (cts Try.prog 3)) (.cn (decide (toI (((w87_0 ra rb rc ps).getD ra.toNat []).getD (0 + rb.toNat * 1) AV.u) > 1000000000000000)) (.lf (.tup [.nl, .i .i64 3])) (.lf (.tup [.rs 91 (w87_0 ra rb rc ps), .i .i64 0]))) (.nn)) (.nn)) (.nn)) (.nn))) (.nn)
theorem eq67 (ra rb rc : Int) (ps : List (List AV)) : evF Try.prog Sg (ro 67) (fun _ _ => none) Try.f67 [.agg [.i .i64 ra, .i .i64 rb, .i .i64 rc, .rs 31 ps]] = (a67 ra rb rc ps).opt id := by kernel_rfl
theorem wk67 (ra rb rc : Int) (ps : List (List AV)) : (a67 ra rb rc ps).map (wkV [some 91, none]) = (t67 ra rb rc ps).map (fun (x : (List (List AV)) × (Int)) => (.tup [.rs 91 x.1, .i .i64 x.2] : AV)) := by kernel_rfl
theorem con67 (ra rb rc : Int) (ps : List (List AV)) (h : g67 ra rb rc ps = true) : Con Try.prog 67 [.agg [.i .i64 ra, .i .i64 rb, .i .i64 rc, .rs 31 ps]] [] (.tup [.rs 91 (w67_0 ra rb rc ps), .i .i64 (w67_1 ra rb rc ps)]) [] := by
  obtain ⟨v, h1, h2⟩ := Tr.soundW (eq67 ra rb rc ps) (wk67 ra rb rc ps) h
  have := (con_of Sg_ok mixed Try.func67 (c := c67) rfl (names 67 _ Try.func67) lok67 h1).wk [some 91, none]
  rw [h2] at this
  exact this
noncomputable def e67 (args : List AV) (rows : List Blk) : Option (Bool × AV × List Blk) := match args, rows with
  | [.agg [.i .i64 ra, .i .i64 rb, .i .i64 rc, .rs 31 ps]], [] => some (g67 ra rb rc ps, .tup [.rs 91 (w67_0 ra rb rc ps), .i .i64 (w67_1 ra rb rc ps)], [])
  | _, _ => none
theorem e67_ok (args : List AV) (rows : List Blk) (pre : Bool) (v : AV) (rows' : List Blk) (h : e67 args rows = some (pre, v, rows')) (hp : pre = true) : Con Try.prog 67 args rows v rows' := by
  unfold e67 at h
  split at h
  · cases h; exact con67 _ _ _ _ hp
  · cases h
-- SPEC 67
end Go.Proofs.Ytgifjphinkbcaaa

set_option maxRecDepth 100000
set_option linter.unusedVariables false
namespace Go.Proofs.Ytgifjphinkbcaaa
open Go Go.Ev

/-! ### fits -/
noncomputable def c64 : Code := match Try.f64.body with | some c => c | _ => .skip
noncomputable def lp64a : Code := loopAt c64 [true, true, false, true, false]
noncomputable def s64a (ra : Int) (rb : Int) (rc : Int) (ps : List (List AV)) (t4 : Bool) (t6 : Bool) (ws : List (List AV)) (t12 : Int) (t13 : Int) (m4_0 : Int) (m4_1 : Int) : St :=
  { t := [(2, .rp [.int .i64, .int .i64, .int .i64, .sl 31] [.i .i64 ra, .i .i64 rb, .i .i64 rc, .rs 31 ps] 0), (4, .b t4), (5, .p 4 0 0), (6, .b t6), (11, .rs 3 ws), (12, .i .i64 t12), (13, .i .i64 t13)], m := [(0, .dead), (1, .dead), (2, .dead), (3, .dead), (4, .row 78 [[.i .i64 m4_0, .i .i64 m4_1]])], nx := 5, nt := 42 }
structure S64a where
  t6 : Bool
  t13 : Int
  m4_0 : Int
  m4_1 : Int
inductive T64a where
  | x0 (t4' : Bool) (t6 : Bool) (t13 : Int) (m4_0 : Int) (m4_1 : Int)
  | x1 (t6 : Bool) (t13 : Int) (m4_0 : Int) (m4_1 : Int)
noncomputable def stp64a (ra : Int) (rb : Int) (rc : Int) (ps : List (List AV)) (t4 : Bool) (ws : List (List AV)) (t12 : Int) (t6 : Bool) (t13 : Int) (m4_0 : Int) (m4_1 : Int) : Lp S64a T64a :=
  cond (decide (t13 < t12)) (cond (inb t13 ws.length) (cond (g55 (fI (ws.getD t13.toNat []) 0) 0 (IntKind.i64.wrap ((↑ps.length : Int) - 1))) (cond (!w55_0 (fI (ws.getD t13.toNat []) 0) 0 (IntKind.i64.wrap ((↑ps.length : Int) - 1))) (.out (.x0 false t6 t13 m4_0 m4_1)) (cond (inb (fI (ws.getD t13.toNat []) 0) ps.length) (cond (g71 m4_0 m4_1 (fS (ps.getD (fI (ws.getD t13.toNat []) 0).toNat []) 0) (fI (ps.getD (fI (ws.getD t13.toNat []) 0).toNat []) 1) (fI (ps.getD (fI (ws.getD t13.toNat []) 0).toNat []) 2) (fI (ps.getD (fI (ws.getD t13.toNat []) 0).toNat []) 3) (fI (ps.getD (fI (ws.getD t13.toNat []) 0).toNat []) 4)) (cond (!w71_2 m4_0 m4_1 (fS (ps.getD (fI (ws.getD t13.toNat []) 0).toNat []) 0) (fI (ps.getD (fI (ws.getD t13.toNat []) 0).toNat []) 1) (fI (ps.getD (fI (ws.getD t13.toNat []) 0).toNat []) 2) (fI (ps.getD (fI (ws.getD t13.toNat []) 0).toNat []) 3) (fI (ps.getD (fI (ws.getD t13.toNat []) 0).toNat []) 4)) (.out (.x0 false (w71_2 m4_0 m4_1 (fS (ps.getD (fI (ws.getD t13.toNat []) 0).toNat []) 0) (fI (ps.getD (fI (ws.getD t13.toNat []) 0).toNat []) 1) (fI (ps.getD (fI (ws.getD t13.toNat []) 0).toNat []) 2) (fI (ps.getD (fI (ws.getD t13.toNat []) 0).toNat []) 3) (fI (ps.getD (fI (ws.getD t13.toNat []) 0).toNat []) 4)) t13 (w71_0 m4_0 m4_1 (fS (ps.getD (fI (ws.getD t13.toNat []) 0).toNat []) 0) (fI (ps.getD (fI (ws.getD t13.toNat []) 0).toNat []) 1) (fI (ps.getD (fI (ws.getD t13.toNat []) 0).toNat []) 2) (fI (ps.getD (fI (ws.getD t13.toNat []) 0).toNat []) 3) (fI (ps.getD (fI (ws.getD t13.toNat []) 0).toNat []) 4)) (w71_1 m4_0 m4_1 (fS (ps.getD (fI (ws.getD t13.toNat []) 0).toNat []) 0) (fI (ps.getD (fI (ws.getD t13.toNat []) 0).toNat []) 1) (fI (ps.getD (fI (ws.getD t13.toNat []) 0).toNat []) 2) (fI (ps.getD (fI (ws.getD t13.toNat []) 0).toNat []) 3) (fI (ps.getD (fI (ws.getD t13.toNat []) 0).toNat []) 4)))) (.go ⟨w71_2 m4_0 m4_1 (fS (ps.getD (fI (ws.getD t13.toNat []) 0).toNat []) 0) (fI (ps.getD (fI (ws.getD t13.toNat []) 0).toNat []) 1) (fI (ps.getD (fI (ws.getD t13.toNat []) 0).toNat []) 2) (fI (ps.getD (fI (ws.getD t13.toNat []) 0).toNat []) 3) (fI (ps.getD (fI (ws.getD t13.toNat []) 0).toNat []) 4), IntKind.i64.wrap (t13 + 1), w71_0 m4_0 m4_1 (fS (ps.getD (fI (ws.getD t13.toNat []) 0).toNat []) 0) (fI (ps.getD (fI (ws.getD t13.toNat []) 0).toNat []) 1) (fI (ps.getD (fI (ws.getD t13.toNat []) 0).toNat []) 2) (fI (ps.getD (fI (ws.getD t13.toNat []) 0).toNat []) 3) (fI (ps.getD (fI (ws.getD t13.toNat []) 0).toNat []) 4), w71_1 m4_0 m4_1 (fS (ps.getD (fI (ws.getD t13.toNat []) 0).toNat []) 0) (fI (ps.getD (fI (ws.getD t13.toNat []) 0).toNat []) 1) (fI (ps.getD (fI (ws.getD t13.toNat []) 0).toNat []) 2) (fI (ps.getD (fI (ws.getD t13.toNat []) 0).toNat []) 3) (fI (ps.getD (fI (ws.getD t13.toNat []) 0).toNat []) 4)⟩)) (.bad)) (.bad))) (.bad)) (.bad)) (.out (.x1 t6 t13 m4_0 m4_1))
noncomputable def o64a_0 (ra : Int) (rb : Int) (rc : Int) (ps : List (List AV)) (t4 : Bool) (ws : List (List AV)) (t12 : Int) (t4' : Bool) (t6 : Bool) (t13 : Int) (m4_0 : Int) (m4_1 : Int) : St :=
  { t := [(2, .rp [.int .i64, .int .i64, .int .i64, .sl 31] [.i .i64 ra, .i .i64 rb, .i .i64 rc, .rs 31 ps] 0), (4, .b t4'), (5, .p 4 0 0), (6, .b t6), (11, .rs 3 ws), (12, .i .i64 t12), (13, .i .i64 t13)], m := [(0, .dead), (1, .dead), (2, .dead), (3, .dead), (4, .row 78 [[.i .i64 m4_0, .i .i64 m4_1]])], nx := 5, nt := 42 }
noncomputable def o64a_1 (ra : Int) (rb : Int) (rc : Int) (ps : List (List AV)) (t4 : Bool) (ws : List (List AV)) (t12 : Int) (t6 : Bool) (t13 : Int) (m4_0 : Int) (m4_1 : Int) : St :=
  { t := [(2, .rp [.int .i64, .int .i64, .int .i64, .sl 31] [.i .i64 ra, .i .i64 rb, .i .i64 rc, .rs 31 ps] 0), (4, .b t4), (5, .p 4 0 0), (6, .b t6), (11, .rs 3 ws), (12, .i .i64 t12), (13, .i .i64 t13)], m := [(0, .dead), (1, .dead), (2, .dead), (3, .dead), (4, .row 78 [[.i .i64 m4_0, .i .i64 m4_1]])], nx := 5, nt := 42 }
noncomputable def ou64a (ra : Int) (rb : Int) (rc : Int) (ps : List (List AV)) (t4 : Bool) (ws : List (List AV)) (t12 : Int) : T64a → Ex × St
  | .x0 t4' t6 t13 m4_0 m4_1 => (.ret, o64a_0 ra rb rc ps t4 ws t12 t4' t6 t13 m4_0 m4_1)
  | .x1 t6 t13 m4_0 m4_1 => (.ext 0, o64a_1 ra rb rc ps t4 ws t12 t6 t13 m4_0 m4_1)
noncomputable def r64a (ra : Int) (rb : Int) (rc : Int) (ps : List (List AV)) (t4 : Bool) (ws : List (List AV)) (t12 : Int) (t6 : Bool) (t13 : Int) (m4_0 : Int) (m4_1 : Int) : Option T64a := run (fun x => stp64a ra rb rc ps t4 ws t12 x.t6 x.t13 x.m4_0 x.m4_1) (⟨t6, t13, m4_0, m4_1⟩ : S64a)
noncomputable def i64a_0 (ra : Int) (rb : Int) (rc : Int) (ps : List (List AV)) (t4 : Bool) (ws : List (List AV)) (t12 : Int) (t6 : Bool) (t13 : Int) (m4_0 : Int) (m4_1 : Int) : Bool := match r64a ra rb rc ps t4 ws t12 t6 t13 m4_0 m4_1 with
  | some (.x0 _ _ _ _ _) => true
  | _ => false
noncomputable def v64a_0_t4' (ra : Int) (rb : Int) (rc : Int) (ps : List (List AV)) (t4 : Bool) (ws : List (List AV)) (t12 : Int) (t6 : Bool) (t13 : Int) (m4_0 : Int) (m4_1 : Int) : Bool := match r64a ra rb rc ps t4 ws t12 t6 t13 m4_0 m4_1 with
  | some (.x0 t4' _ _ _ _) => t4'
  | _ => default
noncomputable def v64a_0_t6 (ra : Int) (rb : Int) (rc : Int) (ps : List (List AV)) (t4 : Bool) (ws : List (List AV)) (t12 : Int) (t6 : Bool) (t13 : Int) (m4_0 : Int) (m4_1 : Int) : Bool := match r64a ra rb rc ps t4 ws t12 t6 t13 m4_0 m4_1 with
  | some (.x0 _ t6 _ _ _) => t6
  | _ => default
noncomputable def v64a_0_t13 (ra : Int) (rb : Int) (rc : Int) (ps : List (List AV)) (t4 : Bool) (ws : List (List AV)) (t12 : Int) (t6 : Bool) (t13 : Int) (m4_0 : Int) (m4_1 : Int) : Int := match r64a ra rb rc ps t4 ws t12 t6 t13 m4_0 m4_1 with
  | some (.x0 _ _ t13 _ _) => t13
  | _ => default
noncomputable def v64a_0_m4_0 (ra : Int) (rb : Int) (rc : Int) (ps : List (List AV)) (t4 : Bool) (ws : List (List AV)) (t12 : Int) (t6 : Bool) (t13 : Int) (m4_0 : Int) (m4_1 : Int) : Int := match r64a ra rb rc ps t4 ws t12 t6 t13 m4_0 m4_1 with
  | some (.x0 _ _ _ m4_0 _) => m4_0
  | _ => default
noncomputable def v64a_0_m4_1 (ra : Int) (rb : Int) (rc : Int) (ps : List (List AV)) (t4 : Bool) (ws : List (List AV)) (t12 : Int) (t6 : Bool) (t13 : Int) (m4_0 : Int) (m4_1 : Int) : Int := match r64a ra rb rc ps t4 ws t12 t6 t13 m4_0 m4_1 with
  | some (.x0 _ _ _ _ m4_1) => m4_1
  | _ => default
noncomputable def i64a_1 (ra : Int) (rb : Int) (rc : Int) (ps : List (List AV)) (t4 : Bool) (ws : List (List AV)) (t12 : Int) (t6 : Bool) (t13 : Int) (m4_0 : Int) (m4_1 : Int) : Bool := match r64a ra rb rc ps t4 ws t12 t6 t13 m4_0 m4_1 with
  | some (.x1 _ _ _ _) => true
  | _ => false
noncomputable def v64a_1_t6 (ra : Int) (rb : Int) (rc : Int) (ps : List (List AV)) (t4 : Bool) (ws : List (List AV)) (t12 : Int) (t6 : Bool) (t13 : Int) (m4_0 : Int) (m4_1 : Int) : Bool := match r64a ra rb rc ps t4 ws t12 t6 t13 m4_0 m4_1 with
  | some (.x1 t6 _ _ _) => t6
  | _ => default
noncomputable def v64a_1_t13 (ra : Int) (rb : Int) (rc : Int) (ps : List (List AV)) (t4 : Bool) (ws : List (List AV)) (t12 : Int) (t6 : Bool) (t13 : Int) (m4_0 : Int) (m4_1 : Int) : Int := match r64a ra rb rc ps t4 ws t12 t6 t13 m4_0 m4_1 with
  | some (.x1 _ t13 _ _) => t13
  | _ => default
noncomputable def v64a_1_m4_0 (ra : Int) (rb : Int) (rc : Int) (ps : List (List AV)) (t4 : Bool) (ws : List (List AV)) (t12 : Int) (t6 : Bool) (t13 : Int) (m4_0 : Int) (m4_1 : Int) : Int := match r64a ra rb rc ps t4 ws t12 t6 t13 m4_0 m4_1 with
  | some (.x1 _ _ m4_0 _) => m4_0
  | _ => default
noncomputable def v64a_1_m4_1 (ra : Int) (rb : Int) (rc : Int) (ps : List (List AV)) (t4 : Bool) (ws : List (List AV)) (t12 : Int) (t6 : Bool) (t13 : Int) (m4_0 : Int) (m4_1 : Int) : Int := match r64a ra rb rc ps t4 ws t12 t6 t13 m4_0 m4_1 with
  | some (.x1 _ _ _ m4_1) => m4_1
  | _ => default
noncomputable def l64a (st : St) : Option (List (Bool × Ex × St)) := match normW Try.prog [(2, none), (4, none), (5, none), (6, none), (11, none), (12, none), (13, none)] 5 st with
  | some ([.rp [.int .i64, .int .i64, .int .i64, .sl 31] [.i .i64 ra, .i .i64 rb, .i .i64 rc, .rs 31 ps] 0, .b t4, .p 4 0 0, .b t6, .rs 3 ws, .i .i64 t12, .i .i64 t13], [(0, .dead), (1, .dead), (2, .dead), (3, .dead), (4, .row 78 [[.i .i64 m4_0, .i .i64 m4_1]])], 5, 42) => some [(i64a_0 ra rb rc ps t4 ws t12 t6 t13 m4_0 m4_1, .ret, o64a_0 ra rb rc ps t4 ws t12 (v64a_0_t4' ra rb rc ps t4 ws t12 t6 t13 m4_0 m4_1) (v64a_0_t6 ra rb rc ps t4 ws t12 t6 t13 m4_0 m4_1) (v64a_0_t13 ra rb rc ps t4 ws t12 t6 t13 m4_0 m4_1) (v64a_0_m4_0 ra rb rc ps t4 ws t12 t6 t13 m4_0 m4_1) (v64a_0_m4_1 ra rb rc ps t4 ws t12 t6 t13 m4_0 m4_1)), (i64a_1 ra rb rc ps t4 ws t12 t6 t13 m4_0 m4_1, .ext 0, o64a_1 ra rb rc ps t4 ws t12 (v64a_1_t6 ra rb rc ps t4 ws t12 t6 t13 m4_0 m4_1) (v64a_1_t13 ra rb rc ps t4 ws t12 t6 t13 m4_0 m4_1) (v64a_1_m4_0 ra rb rc ps t4 ws t12 t6 t13 m4_0 m4_1) (v64a_1_m4_1 ra rb rc ps t4 ws t12 t6 t13 m4_0 m4_1))]
  | _ => none
noncomputable def L64 : LSpec := fun p st => match p with
  | [false, true, false, true, true] => l64a st
  | _ => none
theorem is64a_0 (ra : Int) (rb : Int) (rc : Int) (ps : List (List AV)) (t4 : Bool) (ws : List (List AV)) (t12 : Int) (t6 : Bool) (t13 : Int) (m4_0 : Int) (m4_1 : Int) (h : i64a_0 ra rb rc ps t4 ws t12 t6 t13 m4_0 m4_1 = true) : r64a ra rb rc ps t4 ws t12 t6 t13 m4_0 m4_1 = some (.x0 (v64a_0_t4' ra rb rc ps t4 ws t12 t6 t13 m4_0 m4_1) (v64a_0_t6 ra rb rc ps t4 ws t12 t6 t13 m4_0 m4_1) (v64a_0_t13 ra rb rc ps t4 ws t12 t6 t13 m4_0 m4_1) (v64a_0_m4_0 ra rb rc ps t4 ws t12 t6 t13 m4_0 m4_1) (v64a_0_m4_1 ra rb rc ps t4 ws t12 t6 t13 m4_0 m4_1)) := by
  unfold i64a_0 at h
  unfold v64a_0_t4' v64a_0_t6 v64a_0_t13 v64a_0_m4_0 v64a_0_m4_1
  generalize r64a ra rb rc ps t4 ws t12 t6 t13 m4_0 m4_1 = r at h ⊢
  rcases r with _ | y
  · cases h
  · cases y <;> first | rfl | cases h
theorem is64a_1 (ra : Int) (rb : Int) (rc : Int) (ps : List (List AV)) (t4 : Bool) (ws : List (List AV)) (t12 : Int) (t6 : Bool) (t13 : Int) (m4_0 : Int) (m4_1 : Int) (h : i64a_1 ra rb rc ps t4 ws t12 t6 t13 m4_0 m4_1 = true) : r64a ra rb rc ps t4 ws t12 t6 t13 m4_0 m4_1 = some (.x1 (v64a_1_t6 ra rb rc ps t4 ws t12 t6 t13 m4_0 m4_1) (v64a_1_t13 ra rb rc ps t4 ws t12 t6 t13 m4_0 m4_1) (v64a_1_m4_0 ra rb rc ps t4 ws t12 t6 t13 m4_0 m4_1) (v64a_1_m4_1 ra rb rc ps t4 ws t12 t6 t13 m4_0 m4_1)) := by
  unfold i64a_1 at h
  unfold v64a_1_t6 v64a_1_t13 v64a_1_m4_0 v64a_1_m4_1
  generalize r64a ra rb rc ps t4 ws t12 t6 t13 m4_0 m4_1 = r at h ⊢
  rcases r with _ | y
  · cases h
  · cases y <;> first | rfl | cases h
theorem round64a (ra : Int) (rb : Int) (rc : Int) (ps : List (List AV)) (t4 : Bool) (t6 : Bool) (ws : List (List AV)) (t12 : Int) (t13 : Int) (m4_0 : Int) (m4_1 : Int) : round Try.prog Sg (ro 64) L64 lp64a [false, true, false, true, true] [(2, none), (4, none), (5, none), (6, none), (11, none), (12, none), (13, none)] 5 (s64a ra rb rc ps t4 t6 ws t12 t13 m4_0 m4_1) =
    cond (decide (t13 < t12)) (cond (inb t13 ws.length) (cond (g55 (fI (ws.getD t13.toNat []) 0) 0 (IntKind.i64.wrap ((↑ps.length : Int) - 1))) (cond (!w55_0 (fI (ws.getD t13.toNat []) 0) 0 (IntKind.i64.wrap ((↑ps.length : Int) - 1))) (some (.ret, o64a_0 ra rb rc ps t4 ws t12 false t6 t13 m4_0 m4_1)) (cond (inb (fI (ws.getD t13.toNat []) 0) ps.length) (cond (g71 m4_0 m4_1 (fS (ps.getD (fI (ws.getD t13.toNat []) 0).toNat []) 0) (fI (ps.getD (fI (ws.getD t13.toNat []) 0).toNat []) 1) (fI (ps.getD (fI (ws.getD t13.toNat []) 0).toNat []) 2) (fI (ps.getD (fI (ws.getD t13.toNat []) 0).toNat []) 3) (fI (ps.getD (fI (ws.getD t13.toNat []) 0).toNat []) 4)) (cond (!w71_2 m4_0 m4_1 (fS (ps.getD (fI (ws.getD t13.toNat []) 0).toNat []) 0) (fI (ps.getD (fI (ws.getD t13.toNat []) 0).toNat []) 1) (fI (ps.getD (fI (ws.getD t13.toNat []) 0).toNat []) 2) (fI (ps.getD (fI (ws.getD t13.toNat []) 0).toNat []) 3) (fI (ps.getD (fI (ws.getD t13.toNat []) 0).toNat []) 4)) (some (.ret, o64a_0 ra rb rc ps t4 ws t12 false (w71_2 m4_0 m4_1 (fS (ps.getD (fI (ws.getD t13.toNat []) 0).toNat []) 0) (fI (ps.getD (fI (ws.getD t13.toNat []) 0).toNat []) 1) (fI (ps.getD (fI (ws.getD t13.toNat []) 0).toNat []) 2) (fI (ps.getD (fI (ws.getD t13.toNat []) 0).toNat []) 3) (fI (ps.getD (fI (ws.getD t13.toNat []) 0).toNat []) 4)) t13 (w71_0 m4_0 m4_1 (fS (ps.getD (fI (ws.getD t13.toNat []) 0).toNat []) 0) (fI (ps.getD (fI (ws.getD t13.toNat []) 0).toNat []) 1) (fI (ps.getD (fI (ws.getD t13.toNat []) 0).toNat []) 2) (fI (ps.getD (fI (ws.getD t13.toNat []) 0).toNat []) 3) (fI (ps.getD (fI (ws.getD t13.toNat []) 0).toNat []) 4)) (w71_1 m4_0 m4_1 (fS (ps.getD (fI (ws.getD t13.toNat []) 0).toNat []) 0) (fI (ps.getD (fI (ws.getD t13.toNat []) 0).toNat []) 1) (fI (ps.getD (fI (ws.getD t13.toNat []) 0).toNat []) 2) (fI (ps.getD (fI (ws.getD t13.toNat []) 0).toNat []) 3) (fI (ps.getD (fI (ws.getD t13.toNat []) 0).toNat []) 4)))) (some (.nrm, s64a ra rb rc ps t4 (w71_2 m4_0 m4_1 (fS (ps.getD (fI (ws.getD t13.toNat []) 0).toNat []) 0) (fI (ps.getD (fI (ws.getD t13.toNat []) 0).toNat []) 1) (fI (ps.getD (fI (ws.getD t13.toNat []) 0).toNat []) 2) (fI (ps.getD (fI (ws.getD t13.toNat []) 0).toNat []) 3) (fI (ps.getD (fI (ws.getD t13.toNat []) 0).toNat []) 4)) ws t12 (IntKind.i64.wrap (t13 + 1)) (w71_0 m4_0 m4_1 (fS (ps.getD (fI (ws.getD t13.toNat []) 0).toNat []) 0) (fI (ps.getD (fI (ws.getD t13.toNat []) 0).toNat []) 1) (fI (ps.getD (fI (ws.getD t13.toNat []) 0).toNat []) 2) (fI (ps.getD (fI (ws.getD t13.toNat []) 0).toNat []) 3) (fI (ps.getD (fI (ws.getD t13.toNat []) 0).toNat []) 4)) (w71_1 m4_0 m4_1 (fS (ps.getD (fI (ws.getD t13.toNat []) 0).toNat []) 0) (fI (ps.getD (fI (ws.getD t13.toNat []) 0).toNat []) 1) (fI (ps.getD (fI (ws.getD t13.toNat []) 0).toNat []) 2) (fI (ps.getD (fI (ws.getD t13.toNat []) 0).toNat []) 3) (fI (ps.getD (fI (ws.getD t13.toNat []) 0).toNat []) 4))))) (none)) (none))) (none)) (none)) (some (.ext 0, o64a_1 ra rb rc ps t4 ws t12 t6 t13 m4_0 m4_1)) := by kernel_rfl
theorem rnd64a (ra : Int) (rb : Int) (rc : Int) (ps : List (List AV)) (t4 : Bool) (ws : List (List AV)) (t12 : Int) (x : S64a) : round Try.prog Sg (ro 64) L64 lp64a [false, true, false, true, true] [(2, none), (4, none), (5, none), (6, none), (11, none), (12, none), (13, none)] 5 ((fun x => s64a ra rb rc ps t4 x.t6 ws t12 x.t13 x.m4_0 x.m4_1) x) = toR (fun x => s64a ra rb rc ps t4 x.t6 ws t12 x.t13 x.m4_0 x.m4_1) (ou64a ra rb rc ps t4 ws t12) (stp64a ra rb rc ps t4 ws t12 x.t6 x.t13 x.m4_0 x.m4_1) := by
  refine (round64a _ _ _ _ _ _ _ _ _ _ _ ).trans ?_
  unfold stp64a
  simp only [toR_cond]
  rfl
theorem lok64a {st : St} {outs : List (Bool × Ex × St)} {e : Ex} {s : St} (hl : l64a st = some outs) (hch : Chosen outs e s) :
    ∃ keep nb, 0 ≤ nb ∧ LB Try.prog Sg (ro 64) L64 lp64a [false, true, false, true, true] keep nb st e s := by
  unfold l64a at hl
  split at hl
  · rename_i ra rb rc ps t4 t6 ws t12 t13 m4_0 m4_1 hno
    cases hl
    have hno := normW_norm hno
    refine ⟨_, _, ?_, .enter hno ?_⟩
    · decide
    have main := fun y h => LB_run (x := (⟨t6, t13, m4_0, m4_1⟩ : S64a)) (y := y) (nb := 5) (fun y => by cases y <;> simp [ou64a]) (rnd64a ra rb rc ps t4 ws t12) h
    obtain ⟨x, hx, hg, rfl, rfl⟩ := chosen_any hch
    simp only [List.mem_cons, List.not_mem_nil, or_false] at hx
    rcases hx with rfl | rfl
    · exact main _ (is64a_0 ra rb rc ps t4 ws t12 t6 t13 m4_0 m4_1 hg)
    · exact main _ (is64a_1 ra rb rc ps t4 ws t12 t6 t13 m4_0 m4_1 hg)
  · cases hl
theorem L64_ok (q : Pl) (c : Code) (hq : locate c64 q.reverse = some (.loop c)) (st : St) (outs : List (Bool × Ex × St)) (e : Ex) (s : St) (hl : L64 q st = some outs) (hch : Chosen outs e s) :
    ∃ keep nb, 0 ≤ nb ∧ LB Try.prog Sg (ro 64) L64 c q keep nb st e s := by
  unfold L64 at hl
  split at hl
  · have : locate c64 ([false, true, false, true, true] : Pl).reverse = some (.loop lp64a) := by kernel_rfl
    rw [this] at hq
    cases hq
    exact lok64a hl hch
  · cases hl
theorem lok64 : LOK Try.prog Sg (ro 64) L64 0 false c64 [] :=
  lok_lo L64_ok c64 [] false (locate_nil _) (by kernel_rfl)
noncomputable def t64 (ra rb rc : Int) (ps : List (List AV)) (ws : List (List AV)) : Tr ((Bool)) :=
  .cn (i64a_0 ra rb rc ps false ws (↑ws.length : Int) true 0 (w52_0 ra rb rc ps) (w52_1 ra rb rc ps)) (.lf (v64a_0_t4' ra rb rc ps false ws (↑ws.length : Int) true 0 (w52_0 ra rb rc ps) (w52_1 ra rb rc ps))) (.cn (i64a_1 ra rb rc ps false ws (↑ws.length : Int) true 0 (w52_0 ra rb rc ps) (w52_1 ra rb rc ps)) (.lf (v64a_1_m4_0 ra rb rc ps false ws (↑ws.length : Int) true 0 (w52_0 ra rb rc ps) (w52_1 ra rb rc ps) == 0 && v64a_1_m4_1 ra rb rc ps false ws (↑ws.length : Int) true 0 (w52_0 ra rb rc ps) (w52_1 ra rb rc ps) == rc)) (.nn))
noncomputable def g64 (ra rb rc : Int) (ps : List (List AV)) (ws : List (List AV)) : Bool := (t64 ra rb rc ps ws).g
noncomputable def w64_0 (ra rb rc : Int) (ps : List (List AV)) (ws : List (List AV)) : Bool := (t64 ra rb rc ps ws).val
theorem eq64 (ra rb rc : Int) (ps : List (List AV)) (ws : List (List AV)) : evF Try.prog Sg (ro 64) L64 Try.f64 [.agg [.i .i64 ra, .i .i64 rb, .i .i64 rc, .rs 31 ps], .rs 3 ws] = (t64 ra rb rc ps ws).opt (fun (x : (Bool)) => (.b x : AV)) := by kernel_rfl
theorem con64 (ra rb rc : Int) (ps : List (List AV)) (ws : List (List AV)) (h : g64 ra rb rc ps ws = true) : Con Try.prog 64 [.agg [.i .i64 ra, .i .i64 rb, .i .i64 rc, .rs 31 ps], .rs 3 ws] [] (.b (w64_0 ra rb rc ps ws)) [] :=
  con_of Sg_ok mixed Try.func64 (c := c64) rfl (names 64 _ Try.func64) lok64 ((eq64 ra rb rc ps ws).trans (Tr.sound _ _ h))
noncomputable def e64 (args : List AV) (rows : List Blk) : Option (Bool × AV × List Blk) := match args, rows with
  | [.agg [.i .i64 ra, .i .i64 rb, .i .i64 rc, .rs 31 ps], .rs 3 ws], [] => some (g64 ra rb rc ps ws, .b (w64_0 ra rb rc ps ws), [])
  | _, _ => none
theorem e64_ok (args : List AV) (rows : List Blk) (pre : Bool) (v : AV) (rows' : List Blk) (h : e64 args rows = some (pre, v, rows')) (hp : pre = true) : Con Try.prog 64 args rows v rows' := by
  unfold e64 at h
  split at h
  · cases h; exact con64 _ _ _ _ _ hp
  · cases h
-- SPEC 64
end Go.Proofs.Ytgifjphinkbcaaa

set_option maxRecDepth 100000
set_option linter.unusedVariables false
namespace Go.Proofs.Ytgifjphinkbcaaa
open Go Go.Ev

/-! ### ref fits -/
noncomputable def c65 : Code := match Try.f65.body with | some c => c | _ => .skip
noncomputable def lp65a : Code := loopAt c65 [true, true, false, true, false]
noncomputable def s65a (ws : List (List AV)) (ra : Int) (rb : Int) (rc : Int) (ps : List (List AV)) (t4 : Bool) (t5 : Int) (t6 : Int) (t7 : Int) : St :=
  { t := [(1, .rs 3 ws), (2, .rp [.int .i64, .int .i64, .int .i64, .sl 31] [.i .i64 ra, .i .i64 rb, .i .i64 rc, .rs 31 ps] 0), (4, .b t4), (5, .i .i64 t5), (6, .i .i64 t6), (7, .i .i64 t7)], m := [], nx := 0, nt := 64 }
structure S65a where
  t5 : Int
  t6 : Int
  t7 : Int
inductive T65a where
  | x0 (t4' : Bool) (t5 : Int) (t6 : Int) (t7 : Int)
  | x1 (t5 : Int) (t6 : Int) (t7 : Int)
noncomputable def stp65a (ws : List (List AV)) (ra : Int) (rb : Int) (rc : Int) (ps : List (List AV)) (t4 : Bool) (t5 : Int) (t6 : Int) (t7 : Int) : Lp S65a T65a :=
  cond (decide (t7 < (↑ws.length : Int))) (cond (inb t7 ws.length) (cond (g57 (fI (ws.getD t7.toNat []) 0) 0 (IntKind.i64.wrap ((↑ps.length : Int) - 1))) (cond (!w57_0 (fI (ws.getD t7.toNat []) 0) 0 (IntKind.i64.wrap ((↑ps.length : Int) - 1))) (.out (.x0 false t5 t6 t7)) (cond (inb t7 ws.length) (cond (inb (fI (ws.getD t7.toNat []) 0) ps.length) (cond (fI (ps.getD (fI (ws.getD t7.toNat []) 0).toNat []) 2 != t6) (.out (.x0 false t5 t6 t7)) (cond (decide (fI (ps.getD (fI (ws.getD t7.toNat []) 0).toNat []) 1 > IntKind.i64.wrap (ra - t5))) (.out (.x0 false t5 t6 t7)) (.go ⟨IntKind.i64.wrap (t5 + fI (ps.getD (fI (ws.getD t7.toNat []) 0).toNat []) 1), fI (ps.getD (fI (ws.getD t7.toNat []) 0).toNat []) 3, IntKind.i64.wrap (t7 + 1)⟩))) (.bad)) (.bad))) (.bad)) (.bad)) (.out (.x1 t5 t6 t7))
noncomputable def o65a_0 (ws : List (List AV)) (ra : Int) (rb : Int) (rc : Int) (ps : List (List AV)) (t4 : Bool) (t4' : Bool) (t5 : Int) (t6 : Int) (t7 : Int) : St :=
  { t := [(1, .rs 3 ws), (2, .rp [.int .i64, .int .i64, .int .i64, .sl 31] [.i .i64 ra, .i .i64 rb, .i .i64 rc, .rs 31 ps] 0), (4, .b t4'), (5, .i .i64 t5), (6, .i .i64 t6), (7, .i .i64 t7)], m := [], nx := 0, nt := 64 }
noncomputable def o65a_1 (ws : List (List AV)) (ra : Int) (rb : Int) (rc : Int) (ps : List (List AV)) (t4 : Bool) (t5 : Int) (t6 : Int) (t7 : Int) : St :=
  { t := [(1, .rs 3 ws), (2, .rp [.int .i64, .int .i64, .int .i64, .sl 31] [.i .i64 ra, .i .i64 rb, .i .i64 rc, .rs 31 ps] 0), (4, .b t4), (5, .i .i64 t5), (6, .i .i64 t6), (7, .i .i64 t7)], m := [], nx := 0, nt := 64 }
noncomputable def ou65a (ws : List (List AV)) (ra : Int) (rb : Int) (rc : Int) (ps : List (List AV)) (t4 : Bool) : T65a → Ex × St
  | .x0 t4' t5 t6 t7 => (.ret, o65a_0 ws ra rb rc ps t4 t4' t5 t6 t7)
  | .x1 t5 t6 t7 => (.ext 0, o65a_1 ws ra rb rc ps t4 t5 t6 t7)
noncomputable def r65a (ws : List (List AV)) (ra : Int) (rb : Int) (rc : Int) (ps : List (List AV)) (t4 : Bool) (t5 : Int) (t6 : Int) (t7 : Int) : Option T65a := run (fun x => stp65a ws ra rb rc ps t4 x.t5 x.t6 x.t7) (⟨t5, t6, t7⟩ : S65a)
noncomputable def i65a_0 (ws : List (List AV)) (ra : Int) (rb : Int) (rc : Int) (ps : List (List AV)) (t4 : Bool) (t5 : Int) (t6 : Int) (t7 : Int) : Bool := match r65a ws ra rb rc ps t4 t5 t6 t7 with
  | some (.x0 _ _ _ _) => true
  | _ => false
noncomputable def v65a_0_t4' (ws : List (List AV)) (ra : Int) (rb : Int) (rc : Int) (ps : List (List AV)) (t4 : Bool) (t5 : Int) (t6 : Int) (t7 : Int) : Bool := match r65a ws ra rb rc ps t4 t5 t6 t7 with
  | some (.x0 t4' _ _ _) => t4'
  | _ => default
noncomputable def v65a_0_t5 (ws : List (List AV)) (ra : Int) (rb : Int) (rc : Int) (ps : List (List AV)) (t4 : Bool) (t5 : Int) (t6 : Int) (t7 : Int) : Int := match r65a ws ra rb rc ps t4 t5 t6 t7 with
  | some (.x0 _ t5 _ _) => t5
  | _ => default
noncomputable def v65a_0_t6 (ws : List (List AV)) (ra : Int) (rb : Int) (rc : Int) (ps : List (List AV)) (t4 : Bool) (t5 : Int) (t6 : Int) (t7 : Int) : Int := match r65a ws ra rb rc ps t4 t5 t6 t7 with
  | some (.x0 _ _ t6 _) => t6
  | _ => default
noncomputable def v65a_0_t7 (ws : List (List AV)) (ra : Int) (rb : Int) (rc : Int) (ps : List (List AV)) (t4 : Bool) (t5 : Int) (t6 : Int) (t7 : Int) : Int := match r65a ws ra rb rc ps t4 t5 t6 t7 with
  | some (.x0 _ _ _ t7) => t7
  | _ => default
noncomputable def i65a_1 (ws : List (List AV)) (ra : Int) (rb : Int) (rc : Int) (ps : List (List AV)) (t4 : Bool) (t5 : Int) (t6 : Int) (t7 : Int) : Bool := match r65a ws ra rb rc ps t4 t5 t6 t7 with
  | some (.x1 _ _ _) => true
  | _ => false
noncomputable def v65a_1_t5 (ws : List (List AV)) (ra : Int) (rb : Int) (rc : Int) (ps : List (List AV)) (t4 : Bool) (t5 : Int) (t6 : Int) (t7 : Int) : Int := match r65a ws ra rb rc ps t4 t5 t6 t7 with
  | some (.x1 t5 _ _) => t5
  | _ => default
noncomputable def v65a_1_t6 (ws : List (List AV)) (ra : Int) (rb : Int) (rc : Int) (ps : List (List AV)) (t4 : Bool) (t5 : Int) (t6 : Int) (t7 : Int) : Int := match r65a ws ra rb rc ps t4 t5 t6 t7 with
  | some (.x1 _ t6 _) => t6
  | _ => default
noncomputable def v65a_1_t7 (ws : List (List AV)) (ra : Int) (rb : Int) (rc : Int) (ps : List (List AV)) (t4 : Bool) (t5 : Int) (t6 : Int) (t7 : Int) : Int := match r65a ws ra rb rc ps t4 t5 t6 t7 with
  | some (.x1 _ _ t7) => t7
  | _ => default
noncomputable def l65a (st : St) : Option (List (Bool × Ex × St)) := match normW Try.prog [(1, none), (2, none), (4, none), (5, none), (6, none), (7, none)] 0 st with
  | some ([.rs 3 ws, .rp [.int .i64, .int .i64, .int .i64, .sl 31] [.i .i64 ra, .i .i64 rb, .i .i64 rc, .rs 31 ps] 0, .b t4, .i .i64 t5, .i .i64 t6, .i .i64 t7], [], 0, 64) => some [(i65a_0 ws ra rb rc ps t4 t5 t6 t7, .ret, o65a_0 ws ra rb rc ps t4 (v65a_0_t4' ws ra rb rc ps t4 t5 t6 t7) (v65a_0_t5 ws ra rb rc ps t4 t5 t6 t7) (v65a_0_t6 ws ra rb rc ps t4 t5 t6 t7) (v65a_0_t7 ws ra rb rc ps t4 t5 t6 t7)), (i65a_1 ws ra rb rc ps t4 t5 t6 t7, .ext 0, o65a_1 ws ra rb rc ps t4 (v65a_1_t5 ws ra rb rc ps t4 t5 t6 t7) (v65a_1_t6 ws ra rb rc ps t4 t5 t6 t7) (v65a_1_t7 ws ra rb rc ps t4 t5 t6 t7))]
  | _ => none
noncomputable def L65 : LSpec := fun p st => match p with
  | [false, true, false, true, true] => l65a st
  | _ => none
theorem is65a_0 (ws : List (List AV)) (ra : Int) (rb : Int) (rc : Int) (ps : List (List AV)) (t4 : Bool) (t5 : Int) (t6 : Int) (t7 : Int) (h : i65a_0 ws ra rb rc ps t4 t5 t6 t7 = true) : r65a ws ra rb rc ps t4 t5 t6 t7 = some (.x0 (v65a_0_t4' ws ra rb rc ps t4 t5 t6 t7) (v65a_0_t5 ws ra rb rc ps t4 t5 t6 t7) (v65a_0_t6 ws ra rb rc ps t4 t5 t6 t7) (v65a_0_t7 ws ra rb rc ps t4 t5 t6 t7)) := by
  unfold i65a_0 at h
  unfold v65a_0_t4' v65a_0_t5 v65a_0_t6 v65a_0_t7
  generalize r65a ws ra rb rc ps t4 t5 t6 t7 = r at h ⊢
  rcases r with _ | y
  · cases h
  · cases y <;> first | rfl | cases h
theorem is65a_1 (ws : List (List AV)) (ra : Int) (rb : Int) (rc : Int) (ps : List (List AV)) (t4 : Bool) (t5 : Int) (t6 : Int) (t7 : Int) (h : i65a_1 ws ra rb rc ps t4 t5 t6 t7 = true) : r65a ws ra rb rc ps t4 t5 t6 t7 = some (.x1 (v65a_1_t5 ws ra rb rc ps t4 t5 t6 t7) (v65a_1_t6 ws ra rb rc ps t4 t5 t6 t7) (v65a_1_t7 ws ra rb rc ps t4 t5 t6 t7)) := by
  unfold i65a_1 at h
  unfold v65a_1_t5 v65a_1_t6 v65a_1_t7
  generalize r65a ws ra rb rc ps t4 t5 t6 t7 = r at h ⊢
  rcases r with _ | y
  · cases h
  · cases y <;> first | rfl | cases h
theorem round65a (ws : List (List AV)) (ra : Int) (rb : Int) (rc : Int) (ps : List (List AV)) (t4 : Bool) (t5 : Int) (t6 : Int) (t7 : Int) : round Try.prog Sg (ro 65) L65 lp65a [false, true, false, true, true] [(1, none), (2, none), (4, none), (5, none), (6, none), (7, none)] 0 (s65a ws ra rb rc ps t4 t5 t6 t7) =
    cond (decide (t7 < (↑ws.length : Int))) (cond (inb t7 ws.length) (cond (g57 (fI (ws.getD t7.toNat []) 0) 0 (IntKind.i64.wrap ((↑ps.length : Int) - 1))) (cond (!w57_0 (fI (ws.getD t7.toNat []) 0) 0 (IntKind.i64.wrap ((↑ps.length : Int) - 1))) (some (.ret, o65a_0 ws ra rb rc ps t4 false t5 t6 t7)) (cond (inb t7 ws.length) (cond (inb (fI (ws.getD t7.toNat []) 0) ps.length) (cond (fI (ps.getD (fI (ws.getD t7.toNat []) 0).toNat []) 2 != t6) (some (.ret, o65a_0 ws ra rb rc ps t4 false t5 t6 t7)) (cond (decide (fI (ps.getD (fI (ws.getD t7.toNat []) 0).toNat []) 1 > IntKind.i64.wrap (ra - t5))) (some (.ret, o65a_0 ws ra rb rc ps t4 false t5 t6 t7)) (some (.nrm, s65a ws ra rb rc ps t4 (IntKind.i64.wrap (t5 + fI (ps.getD (fI (ws.getD t7.toNat []) 0).toNat []) 1)) (fI (ps.getD (fI (ws.getD t7.toNat []) 0).toNat []) 3) (IntKind.i64.wrap (t7 + 1)))))) (none)) (none))) (none)) (none)) (some (.ext 0, o65a_1 ws ra rb rc ps t4 t5 t6 t7)) := by kernel_rfl
theorem rnd65a (ws : List (List AV)) (ra : Int) (rb : Int) (rc : Int) (ps : List (List AV)) (t4 : Bool) (x : S65a) : round Try.prog Sg (ro 65) L65 lp65a [false, true, false, true, true] [(1, none), (2, none), (4, none), (5, none), (6, none), (7, none)] 0 ((fun x => s65a ws ra rb rc ps t4 x.t5 x.t6 x.t7) x) = toR (fun x => s65a ws ra rb rc ps t4 x.t5 x.t6 x.t7) (ou65a ws ra rb rc ps t4) (stp65a ws ra rb rc ps t4 x.t5 x.t6 x.t7) := by
  refine (round65a _ _ _ _ _ _ _ _ _ ).trans ?_
  unfold stp65a
  simp only [toR_cond]
  rfl
theorem lok65a {st : St} {outs : List (Bool × Ex × St)} {e : Ex} {s : St} (hl : l65a st = some outs) (hch : Chosen outs e s) :
    ∃ keep nb, 0 ≤ nb ∧ LB Try.prog Sg (ro 65) L65 lp65a [false, true, false, true, true] keep nb st e s := by
  unfold l65a at hl
  split at hl
  · rename_i ws ra rb rc ps t4 t5 t6 t7 hno
    cases hl
    have hno := normW_norm hno
    refine ⟨_, _, ?_, .enter hno ?_⟩
    · decide
    have main := fun y h => LB_run (x := (⟨t5, t6, t7⟩ : S65a)) (y := y) (nb := 0) (fun y => by cases y <;> simp [ou65a]) (rnd65a ws ra rb rc ps t4) h
    obtain ⟨x, hx, hg, rfl, rfl⟩ := chosen_any hch
    simp only [List.mem_cons, List.not_mem_nil, or_false] at hx
    rcases hx with rfl | rfl
    · exact main _ (is65a_0 ws ra rb rc ps t4 t5 t6 t7 hg)
    · exact main _ (is65a_1 ws ra rb rc ps t4 t5 t6 t7 hg)
  · cases hl
theorem L65_ok (q : Pl) (c : Code) (hq : locate c65 q.reverse = some (.loop c)) (st : St) (outs : List (Bool × Ex × St)) (e : Ex) (s : St) (hl : L65 q st = some outs) (hch : Chosen outs e s) :
    ∃ keep nb, 0 ≤ nb ∧ LB Try.prog Sg (ro 65) L65 c q keep nb st e s := by
  unfold L65 at hl
  split at hl
  · have : locate c65 ([false, true, false, true, true] : Pl).reverse = some (.loop lp65a) := by kernel_rfl
    rw [this] at hq
    cases hq
    exact lok65a hl hch
  · cases hl
theorem lok65 : LOK Try.prog Sg (ro 65) L65 0 false c65 [] :=
  lok_lo L65_ok c65 [] false (locate_nil _) (by kernel_rfl)
noncomputable def t65 (ra rb rc : Int) (ps : List (List AV)) (ws : List (List AV)) : Tr ((Bool)) :=
  .cn (i65a_0 ws ra rb rc ps false 0 rb 0) (.lf (v65a_0_t4' ws ra rb rc ps false 0 rb 0)) (.cn (i65a_1 ws ra rb rc ps false 0 rb 0) (.cn (v65a_1_t5 ws ra rb rc ps false 0 rb 0 == ra) (.lf (v65a_1_t6 ws ra rb rc ps false 0 rb 0 == rc)) (.lf (false))) (.nn))
noncomputable def g65 (ra rb rc : Int) (ps : List (List AV)) (ws : List (List AV)) : Bool := (t65 ra rb rc ps ws).g
noncomputable def w65_0 (ra rb rc : Int) (ps : List (List AV)) (ws : List (List AV)) : Bool := (t65 ra rb rc ps ws).val
theorem eq65 (ra rb rc : Int) (ps : List (List AV)) (ws : List (List AV)) : evF Try.prog Sg (ro 65) L65 Try.f65 [.agg [.i .i64 ra, .i .i64 rb, .i .i64 rc, .rs 31 ps], .rs 3 ws] = (t65 ra rb rc ps ws).opt (fun (x : (Bool)) => (.b x : AV)) := by kernel_rfl
theorem con65 (ra rb rc : Int) (ps : List (List AV)) (ws : List (List AV)) (h : g65 ra rb rc ps ws = true) : Con Try.prog 65 [.agg [.i .i64 ra, .i .i64 rb, .i .i64 rc, .rs 31 ps], .rs 3 ws] [] (.b (w65_0 ra rb rc ps ws)) [] :=
  con_of Sg_ok mixed Try.func65 (c := c65) rfl (names 65 _ Try.func65) lok65 ((eq65 ra rb rc ps ws).trans (Tr.sound _ _ h))
noncomputable def e65 (args : List AV) (rows : List Blk) : Option (Bool × AV × List Blk) := match args, rows with
  | [.agg [.i .i64 ra, .i .i64 rb, .i .i64 rc, .rs 31 ps], .rs 3 ws], [] => some (g65 ra rb rc ps ws, .b (w65_0 ra rb rc ps ws), [])
  | _, _ => none
theorem e65_ok (args : List AV) (rows : List Blk) (pre : Bool) (v : AV) (rows' : List Blk) (h : e65 args rows = some (pre, v, rows')) (hp : pre = true) : Con Try.prog 65 args rows v rows' := by
  unfold e65 at h
  split at h
  · cases h; exact con65 _ _ _ _ _ hp
  · cases h
-- SPEC 65
end Go.Proofs.Ytgifjphinkbcaaa

set_option maxRecDepth 100000
set_option linter.unusedVariables false
namespace Go.Proofs.Ytgifjphinkbcaaa
open Go Go.Ev

/-! ### before -/
noncomputable def c44 : Code := match Try.f44.body with | some c => c | _ => .skip
noncomputable def lp44a : Code := loopAt c44 [true, false, true, false]
noncomputable def s44a (xs : List (List AV)) (ys : List (List AV)) (t4 : Bool) (t5 : Int) : St :=
  { t := [(0, .rs 3 xs), (1, .rs 3 ys), (4, .b t4), (5, .i .i64 t5)], m := [], nx := 0, nt := 41 }
structure S44a where
  t5 : Int
inductive T44a where
  | x0 (t4' : Bool) (t5 : Int)
  | x1 (t5 : Int)
noncomputable def stp44a (xs : List (List AV)) (ys : List (List AV)) (t4 : Bool) (t5 : Int) : Lp S44a T44a :=
  cond (decide (t5 < (↑xs.length : Int))) (cond (decide (t5 < (↑ys.length : Int))) (cond (inb t5 xs.length) (cond (inb t5 ys.length) (cond (fI (xs.getD t5.toNat []) 0 != fI (ys.getD t5.toNat []) 0) (cond (inb t5 xs.length) (cond (inb t5 ys.length) (.out (.x0 (decide (fI (xs.getD t5.toNat []) 0 < fI (ys.getD t5.toNat []) 0)) t5)) (.bad)) (.bad)) (.go ⟨IntKind.i64.wrap (t5 + 1)⟩)) (.bad)) (.bad)) (.out (.x1 t5))) (.out (.x1 t5))
noncomputable def o44a_0 (xs : List (List AV)) (ys : List (List AV)) (t4 : Bool) (t4' : Bool) (t5 : Int) : St :=
  { t := [(0, .rs 3 xs), (1, .rs 3 ys), (4, .b t4'), (5, .i .i64 t5)], m := [], nx := 0, nt := 41 }
noncomputable def o44a_1 (xs : List (List AV)) (ys : List (List AV)) (t4 : Bool) (t5 : Int) : St :=
  { t := [(0, .rs 3 xs), (1, .rs 3 ys), (4, .b t4), (5, .i .i64 t5)], m := [], nx := 0, nt := 41 }
noncomputable def ou44a (xs : List (List AV)) (ys : List (List AV)) (t4 : Bool) : T44a → Ex × St
  | .x0 t4' t5 => (.ret, o44a_0 xs ys t4 t4' t5)
  | .x1 t5 => (.ext 0, o44a_1 xs ys t4 t5)
noncomputable def r44a (xs : List (List AV)) (ys : List (List AV)) (t4 : Bool) (t5 : Int) : Option T44a := run (fun x => stp44a xs ys t4 x.t5) (⟨t5⟩ : S44a)
noncomputable def i44a_0 (xs : List (List AV)) (ys : List (List AV)) (t4 : Bool) (t5 : Int) : Bool := match r44a xs ys t4 t5 with
  | some (.x0 _ _) => true
  | _ => false
noncomputable def v44a_0_t4' (xs : List (List AV)) (ys : List (List AV)) (t4 : Bool) (t5 : Int) : Bool := match r44a xs ys t4 t5 with
  | some (.x0 t4' _) => t4'
  | _ => default
noncomputable def v44a_0_t5 (xs : List (List AV)) (ys : List (List AV)) (t4 : Bool) (t5 : Int) : Int := match r44a xs ys t4 t5 with
  | some (.x0 _ t5) => t5
  | _ => default
noncomputable def i44a_1 (xs : List (List AV)) (ys : List (List AV)) (t4 : Bool) (t5 : Int) : Bool := match r44a xs ys t4 t5 with
  | some (.x1 _) => true
  | _ => false
noncomputable def v44a_1_t5 (xs : List (List AV)) (ys : List (List AV)) (t4 : Bool) (t5 : Int) : Int := match r44a xs ys t4 t5 with
  | some (.x1 t5) => t5
  | _ => default
noncomputable def l44a (st : St) : Option (List (Bool × Ex × St)) := match normW Try.prog [(0, none), (1, none), (4, none), (5, none)] 0 st with
  | some ([.rs 3 xs, .rs 3 ys, .b t4, .i .i64 t5], [], 0, 41) => some [(i44a_0 xs ys t4 t5, .ret, o44a_0 xs ys t4 (v44a_0_t4' xs ys t4 t5) (v44a_0_t5 xs ys t4 t5)), (i44a_1 xs ys t4 t5, .ext 0, o44a_1 xs ys t4 (v44a_1_t5 xs ys t4 t5))]
  | _ => none
noncomputable def L44 : LSpec := fun p st => match p with
  | [false, true, false, true] => l44a st
  | _ => none
theorem is44a_0 (xs : List (List AV)) (ys : List (List AV)) (t4 : Bool) (t5 : Int) (h : i44a_0 xs ys t4 t5 = true) : r44a xs ys t4 t5 = some (.x0 (v44a_0_t4' xs ys t4 t5) (v44a_0_t5 xs ys t4 t5)) := by
  unfold i44a_0 at h
  unfold v44a_0_t4' v44a_0_t5
  generalize r44a xs ys t4 t5 = r at h ⊢
  rcases r with _ | y
  · cases h
  · cases y <;> first | rfl | cases h
theorem is44a_1 (xs : List (List AV)) (ys : List (List AV)) (t4 : Bool) (t5 : Int) (h : i44a_1 xs ys t4 t5 = true) : r44a xs ys t4 t5 = some (.x1 (v44a_1_t5 xs ys t4 t5)) := by
  unfold i44a_1 at h
  unfold v44a_1_t5
  generalize r44a xs ys t4 t5 = r at h ⊢
  rcases r with _ | y
  · cases h
  · cases y <;> first | rfl | cases h
theorem round44a (xs : List (List AV)) (ys : List (List AV)) (t4 : Bool) (t5 : Int) : round Try.prog Sg (ro 44) L44 lp44a [false, true, false, true] [(0, none), (1, none), (4, none), (5, none)] 0 (s44a xs ys t4 t5) =
    cond (decide (t5 < (↑xs.length : Int))) (cond (decide (t5 < (↑ys.length : Int))) (cond (inb t5 xs.length) (cond (inb t5 ys.length) (cond (fI (xs.getD t5.toNat []) 0 != fI (ys.getD t5.toNat []) 0) (cond (inb t5 xs.length) (cond (inb t5 ys.length) (some (.ret, o44a_0 xs ys t4 (decide (fI (xs.getD t5.toNat []) 0 < fI (ys.getD t5.toNat []) 0)) t5)) (none)) (none)) (some (.nrm, s44a xs ys t4 (IntKind.i64.wrap (t5 + 1))))) (none)) (none)) (some (.ext 0, o44a_1 xs ys t4 t5))) (some (.ext 0, o44a_1 xs ys t4 t5)) := by kernel_rfl
theorem rnd44a (xs : List (List AV)) (ys : List (List AV)) (t4 : Bool) (x : S44a) : round Try.prog Sg (ro 44) L44 lp44a [false, true, false, true] [(0, none), (1, none), (4, none), (5, none)] 0 ((fun x => s44a xs ys t4 x.t5) x) = toR (fun x => s44a xs ys t4 x.t5) (ou44a xs ys t4) (stp44a xs ys t4 x.t5) := by
  refine (round44a _ _ _ _ ).trans ?_
  unfold stp44a
  simp only [toR_cond]
  rfl
theorem lok44a {st : St} {outs : List (Bool × Ex × St)} {e : Ex} {s : St} (hl : l44a st = some outs) (hch : Chosen outs e s) :
    ∃ keep nb, 0 ≤ nb ∧ LB Try.prog Sg (ro 44) L44 lp44a [false, true, false, true] keep nb st e s := by
  unfold l44a at hl
  split at hl
  · rename_i xs ys t4 t5 hno
    cases hl
    have hno := normW_norm hno
    refine ⟨_, _, ?_, .enter hno ?_⟩
    · decide
    have main := fun y h => LB_run (x := (⟨t5⟩ : S44a)) (y := y) (nb := 0) (fun y => by cases y <;> simp [ou44a]) (rnd44a xs ys t4) h
    obtain ⟨x, hx, hg, rfl, rfl⟩ := chosen_any hch
    simp only [List.mem_cons, List.not_mem_nil, or_false] at hx
    rcases hx with rfl | rfl
    · exact main _ (is44a_0 xs ys t4 t5 hg)
    · exact main _ (is44a_1 xs ys t4 t5 hg)
  · cases hl
theorem L44_ok (q : Pl) (c : Code) (hq : locate c44 q.reverse = some (.loop c)) (st : St) (outs : List (Bool × Ex × St)) (e : Ex) (s : St) (hl : L44 q st = some outs) (hch : Chosen outs e s) :
    ∃ keep nb, 0 ≤ nb ∧ LB Try.prog Sg (ro 44) L44 c q keep nb st e s := by
  unfold L44 at hl
  split at hl
  · have : locate c44 ([false, true, false, true] : Pl).reverse = some (.loop lp44a) := by kernel_rfl
    rw [this] at hq
    cases hq
    exact lok44a hl hch
  · cases hl
theorem lok44 : LOK Try.prog Sg (ro 44) L44 0 false c44 [] :=
  lok_lo L44_ok c44 [] false (locate_nil _) (by kernel_rfl)
noncomputable def t44 (xs ys : List (List AV)) : Tr ((Bool)) :=
  .cn (i44a_0 xs ys false 0) (.lf (v44a_0_t4' xs ys false 0)) (.cn (i44a_1 xs ys false 0) (.lf (decide ((↑xs.length : Int) < (↑ys.length : Int)))) (.nn))
noncomputable def g44 (xs ys : List (List AV)) : Bool := (t44 xs ys).g
noncomputable def w44_0 (xs ys : List (List AV)) : Bool := (t44 xs ys).val
theorem eq44 (xs ys : List (List AV)) : evF Try.prog Sg (ro 44) L44 Try.f44 [.rs 3 xs, .rs 3 ys] = (t44 xs ys).opt (fun (x : (Bool)) => (.b x : AV)) := by kernel_rfl
theorem con44 (xs ys : List (List AV)) (h : g44 xs ys = true) : Con Try.prog 44 [.rs 3 xs, .rs 3 ys] [] (.b (w44_0 xs ys)) [] :=
  con_of Sg_ok mixed Try.func44 (c := c44) rfl (names 44 _ Try.func44) lok44 ((eq44 xs ys).trans (Tr.sound _ _ h))
noncomputable def e44 (args : List AV) (rows : List Blk) : Option (Bool × AV × List Blk) := match args, rows with
  | [.rs 3 xs, .rs 3 ys], [] => some (g44 xs ys, .b (w44_0 xs ys), [])
  | _, _ => none
theorem e44_ok (args : List AV) (rows : List Blk) (pre : Bool) (v : AV) (rows' : List Blk) (h : e44 args rows = some (pre, v, rows')) (hp : pre = true) : Con Try.prog 44 args rows v rows' := by
  unfold e44 at h
  split at h
  · cases h; exact con44 _ _ hp
  · cases h
-- SPEC 44
end Go.Proofs.Ytgifjphinkbcaaa

set_option maxRecDepth 100000
set_option linter.unusedVariables false
namespace Go.Proofs.Ytgifjphinkbcaaa
open Go Go.Ev

/-! ### halves -/
noncomputable def c70 : Code := match Try.f70.body with | some c => c | _ => .skip
theorem lok70 : LOK Try.prog Sg (ro 70) (fun _ _ => none) 0 false c70 [] :=
  lok_lo (fun _ _ _ _ _ _ _ h _ => by cases h) c70 [] false (locate_nil _) (by kernel_rfl)
noncomputable def t70 (ra rb rc : Int) (ps : List (List AV)) (x y : Int) : Tr ((Int)) :=
  .cn (g87 x rb y ps) (.cn (inb x (w87_0 x rb y ps).length) (.cn (inb rb 10) (.cn (ctsAt (cts Try.prog 91) (0 + rb.toNat * 1) (cts Try.prog 3)) (.lf (toI (((w87_0 x rb y ps).getD x.toNat []).getD (0 + rb.toNat * 1) AV.u))) (.nn)) (.nn)) (.nn)) (.nn)
noncomputable def g70 (ra rb rc : Int) (ps : List (List AV)) (x y : Int) : Bool := (t70 ra rb rc ps x y).g
noncomputable def w70_0 (ra rb rc : Int) (ps : List (List AV)) (x y : Int) : Int := (t70 ra rb rc ps x y).val
theorem eq70 (ra rb rc : Int) (ps : List (List AV)) (x y : Int) : evF Try.prog Sg (ro 70) (fun _ _ => none) Try.f70 [.agg [.i .i64 ra, .i .i64 rb, .i .i64 rc, .rs 31 ps], .i .i64 x, .i .i64 y] = (t70 ra rb rc ps x y).opt (fun (x : (Int)) => (.i .i64 x : AV)) := by kernel_rfl
theorem con70 (ra rb rc : Int) (ps : List (List AV)) (x y : Int) (h : g70 ra rb rc ps x y = true) : Con Try.prog 70 [.agg [.i .i64 ra, .i .i64 rb, .i .i64 rc, .rs 31 ps], .i .i64 x, .i .i64 y] [] (.i .i64 (w70_0 ra rb rc ps x y)) [] :=
  con_of Sg_ok mixed Try.func70 (c := c70) rfl (names 70 _ Try.func70) lok70 ((eq70 ra rb rc ps x y).trans (Tr.sound _ _ h))
noncomputable def e70 (args : List AV) (rows : List Blk) : Option (Bool × AV × List Blk) := match args, rows with
  | [.agg [.i .i64 ra, .i .i64 rb, .i .i64 rc, .rs 31 ps], .i .i64 x, .i .i64 y], [] => some (g70 ra rb rc ps x y, .i .i64 (w70_0 ra rb rc ps x y), [])
  | _, _ => none
theorem e70_ok (args : List AV) (rows : List Blk) (pre : Bool) (v : AV) (rows' : List Blk) (h : e70 args rows = some (pre, v, rows')) (hp : pre = true) : Con Try.prog 70 args rows v rows' := by
  unfold e70 at h
  split at h
  · cases h; exact con70 _ _ _ _ _ _ hp
  · cases h
-- SPEC 70
end Go.Proofs.Ytgifjphinkbcaaa

set_option maxRecDepth 100000
set_option linter.unusedVariables false
namespace Go.Proofs.Ytgifjphinkbcaaa
open Go Go.Ev
noncomputable def Sh : Ev.Spec := insS 70 e70 (insS 44 e44 (insS 65 e65 (insS 64 e64 (insS 67 e67 (insS 20 e20 (Sg))))))
theorem Sh_ok : SpecOK Try.prog Sh := insS_ok e70_ok (insS_ok e44_ok (insS_ok e65_ok (insS_ok e64_ok (insS_ok e67_ok (insS_ok e20_ok (Sg_ok))))))
end Go.Proofs.Ytgifjphinkbcaaa

set_option maxRecDepth 100000
set_option linter.unusedVariables false
namespace Go.Proofs.Ytgifjphinkbcaaa
open Go Go.Ev

/-! ### ref Ways -/
noncomputable def c36 : Code := match Try.f36.body with | some c => c | _ => .skip
theorem lok36 : LOK Try.prog Sh (ro 36) (fun _ _ => none) 0 false c36 [] :=
  lok_lo (fun _ _ _ _ _ _ _ h _ => by cases h) c36 [] false (locate_nil _) (by kernel_rfl)
noncomputable def t36 (ra rb rc : Int) (ps : List (List AV)) : Tr ((Int) × (Int)) :=
  .cn (g67 ra rb rc ps) (.cn (w67_1 ra rb rc ps != 0) (.lf (0, w67_1 ra rb rc ps)) (.cn (inb ra (w67_0 ra rb rc ps).length) (.cn (inb rb 10) (.cn (ctsAt (cts Try.prog 91) (0 + rb.toNat * 1) (cts Try.prog 3)) (.lf (toI (((w67_0 ra rb rc ps).getD ra.toNat []).getD (0 + rb.toNat * 1) AV.u), 0)) (.nn)) (.nn)) (.nn))) (.nn)
noncomputable def g36 (ra rb rc : Int) (ps : List (List AV)) : Bool := (t36 ra rb rc ps).g
noncomputable def w36_0 (ra rb rc : Int) (ps : List (List AV)) : Int := (t36 ra rb rc ps).val.1
noncomputable def w36_1 (ra rb rc : Int) (ps : List (List AV)) : Int := (t36 ra rb rc ps).val.2
theorem eq36 (ra rb rc : Int) (ps : List (List AV)) : evF Try.prog Sh (ro 36) (fun _ _ => none) Try.f36 [.agg [.i .i64 ra, .i .i64 rb, .i .i64 rc, .rs 31 ps]] = (t36 ra rb rc ps).opt (fun (x : (Int) × (Int)) => (.tup [.i .i64 x.1, .i .i64 x.2] : AV)) := by kernel_rfl
theorem con36 (ra rb rc : Int) (ps : List (List AV)) (h : g36 ra rb rc ps = true) : Con Try.prog 36 [.agg [.i .i64 ra, .i .i64 rb, .i .i64 rc, .rs 31 ps]] [] (.tup [.i .i64 (w36_0 ra rb rc ps), .i .i64 (w36_1 ra rb rc ps)]) [] :=
  con_of Sh_ok mixed Try.func36 (c := c36) rfl (names 36 _ Try.func36) lok36 ((eq36 ra rb rc ps).trans (Tr.sound _ _ h))
noncomputable def e36 (args : List AV) (rows : List Blk) : Option (Bool × AV × List Blk) := match args, rows with
  | [.agg [.i .i64 ra, .i .i64 rb, .i .i64 rc, .rs 31 ps]], [] => some (g36 ra rb rc ps, .tup [.i .i64 (w36_0 ra rb rc ps), .i .i64 (w36_1 ra rb rc ps)], [])
  | _, _ => none
theorem e36_ok (args : List AV) (rows : List Blk) (pre : Bool) (v : AV) (rows' : List Blk) (h : e36 args rows = some (pre, v, rows')) (hp : pre = true) : Con Try.prog 36 args rows v rows' := by
  unfold e36 at h
  split at h
  · cases h; exact con36 _ _ _ _ hp
  · cases h
-- SPEC 36
end Go.Proofs.Ytgifjphinkbcaaa

set_option maxRecDepth 100000
set_option linter.unusedVariables false
namespace Go.Proofs.Ytgifjphinkbcaaa
open Go Go.Ev

/-! ### Fits -/
noncomputable def c30 : Code := match Try.f30.body with | some c => c | _ => .skip
theorem lok30 : LOK Try.prog Sh (ro 30) (fun _ _ => none) 0 false c30 [] :=
  lok_lo (fun _ _ _ _ _ _ _ h _ => by cases h) c30 [] false (locate_nil _) (by kernel_rfl)
noncomputable def t30 (ra rb rc : Int) (ps : List (List AV)) (ws : List (List AV)) : Tr ((Bool) × (Int)) :=
  .cn (g29 ra rb rc ps) (.cn (w29_0 ra rb rc ps != 0) (.lf (false, w29_0 ra rb rc ps)) (.cn (g64 ra rb rc ps ws) (.lf (w64_0 ra rb rc ps ws, 0)) (.nn))) (.nn)
noncomputable def g30 (ra rb rc : Int) (ps : List (List AV)) (ws : List (List AV)) : Bool := (t30 ra rb rc ps ws).g
noncomputable def w30_0 (ra rb rc : Int) (ps : List (List AV)) (ws : List (List AV)) : Bool := (t30 ra rb rc ps ws).val.1
noncomputable def w30_1 (ra rb rc : Int) (ps : List (List AV)) (ws : List (List AV)) : Int := (t30 ra rb rc ps ws).val.2
theorem eq30 (ra rb rc : Int) (ps : List (List AV)) (ws : List (List AV)) : evF Try.prog Sh (ro 30) (fun _ _ => none) Try.f30 [.agg [.i .i64 ra, .i .i64 rb, .i .i64 rc, .rs 31 ps], .rs 3 ws] = (t30 ra rb rc ps ws).opt (fun (x : (Bool) × (Int)) => (.tup [.b x.1, .i .i64 x.2] : AV)) := by kernel_rfl
theorem con30 (ra rb rc : Int) (ps : List (List AV)) (ws : List (List AV)) (h : g30 ra rb rc ps ws = true) : Con Try.prog 30 [.agg [.i .i64 ra, .i .i64 rb, .i .i64 rc, .rs 31 ps], .rs 3 ws] [] (.tup [.b (w30_0 ra rb rc ps ws), .i .i64 (w30_1 ra rb rc ps ws)]) [] :=
  con_of Sh_ok mixed Try.func30 (c := c30) rfl (names 30 _ Try.func30) lok30 ((eq30 ra rb rc ps ws).trans (Tr.sound _ _ h))
noncomputable def e30 (args : List AV) (rows : List Blk) : Option (Bool × AV × List Blk) := match args, rows with
  | [.agg [.i .i64 ra, .i .i64 rb, .i .i64 rc, .rs 31 ps], .rs 3 ws], [] => some (g30 ra rb rc ps ws, .tup [.b (w30_0 ra rb rc ps ws), .i .i64 (w30_1 ra rb rc ps ws)], [])
  | _, _ => none
theorem e30_ok (args : List AV) (rows : List Blk) (pre : Bool) (v : AV) (rows' : List Blk) (h : e30 args rows = some (pre, v, rows')) (hp : pre = true) : Con Try.prog 30 args rows v rows' := by
  unfold e30 at h
  split at h
  · cases h; exact con30 _ _ _ _ _ hp
  · cases h
-- SPEC 30
end Go.Proofs.Ytgifjphinkbcaaa

set_option maxRecDepth 100000
set_option linter.unusedVariables false
namespace Go.Proofs.Ytgifjphinkbcaaa
open Go Go.Ev

/-! ### ref Fits -/
noncomputable def c32 : Code := match Try.f32.body with | some c => c | _ => .skip
theorem lok32 : LOK Try.prog Sh (ro 32) (fun _ _ => none) 0 false c32 [] :=
  lok_lo (fun _ _ _ _ _ _ _ h _ => by cases h) c32 [] false (locate_nil _) (by kernel_rfl)
noncomputable def t32 (ra rb rc : Int) (ps : List (List AV)) (ws : List (List AV)) : Tr ((Bool) × (Int)) :=
  .cn (g33 ra rb rc ps) (.cn (w33_0 ra rb rc ps != 0) (.lf (false, w33_0 ra rb rc ps)) (.cn (g65 ra rb rc ps ws) (.lf (w65_0 ra rb rc ps ws, 0)) (.nn))) (.nn)
noncomputable def g32 (ra rb rc : Int) (ps : List (List AV)) (ws : List (List AV)) : Bool := (t32 ra rb rc ps ws).g
noncomputable def w32_0 (ra rb rc : Int) (ps : List (List AV)) (ws : List (List AV)) : Bool := (t32 ra rb rc ps ws).val.1
noncomputable def w32_1 (ra rb rc : Int) (ps : List (List AV)) (ws : List (List AV)) : Int := (t32 ra rb rc ps ws).val.2
theorem eq32 (ra rb rc : Int) (ps : List (List AV)) (ws : List (List AV)) : evF Try.prog Sh (ro 32) (fun _ _ => none) Try.f32 [.agg [.i .i64 ra, .i .i64 rb, .i .i64 rc, .rs 31 ps], .rs 3 ws] = (t32 ra rb rc ps ws).opt (fun (x : (Bool) × (Int)) => (.tup [.b x.1, .i .i64 x.2] : AV)) := by kernel_rfl
theorem con32 (ra rb rc : Int) (ps : List (List AV)) (ws : List (List AV)) (h : g32 ra rb rc ps ws = true) : Con Try.prog 32 [.agg [.i .i64 ra, .i .i64 rb, .i .i64 rc, .rs 31 ps], .rs 3 ws] [] (.tup [.b (w32_0 ra rb rc ps ws), .i .i64 (w32_1 ra rb rc ps ws)]) [] :=
  con_of Sh_ok mixed Try.func32 (c := c32) rfl (names 32 _ Try.func32) lok32 ((eq32 ra rb rc ps ws).trans (Tr.sound _ _ h))
noncomputable def e32 (args : List AV) (rows : List Blk) : Option (Bool × AV × List Blk) := match args, rows with
  | [.agg [.i .i64 ra, .i .i64 rb, .i .i64 rc, .rs 31 ps], .rs 3 ws], [] => some (g32 ra rb rc ps ws, .tup [.b (w32_0 ra rb rc ps ws), .i .i64 (w32_1 ra rb rc ps ws)], [])
  | _, _ => none
theorem e32_ok (args : List AV) (rows : List Blk) (pre : Bool) (v : AV) (rows' : List Blk) (h : e32 args rows = some (pre, v, rows')) (hp : pre = true) : Con Try.prog 32 args rows v rows' := by
  unfold e32 at h
  split at h
  · cases h; exact con32 _ _ _ _ _ hp
  · cases h
-- SPEC 32
end Go.Proofs.Ytgifjphinkbcaaa

set_option maxRecDepth 100000
set_option linter.unusedVariables false
namespace Go.Proofs.Ytgifjphinkbcaaa
open Go Go.Ev

/-! ### Needs -/
noncomputable def c34 : Code := match Try.f34.body with | some c => c | _ => .skip
noncomputable def lp34a : Code := loopAt c34 [true, true, true, true, false, true, false]
noncomputable def s34a (t5 : Int) (t7 : Nat) (ws : List (List AV)) (t24 : Int) (t25 : Int) (m15 : List (List AV)) : St :=
  { t := [(4, .nl), (5, .i .i64 t5), (7, .sl 15 0 t7), (23, .rs 3 ws), (24, .i .i64 t24), (25, .i .i64 t25)], m := [(0, .dead), (1, .dead), (2, .dead), (3, .dead), (4, .dead), (5, .dead), (6, .dead), (7, .dead), (8, .dead), (9, .dead), (10, .dead), (11, .dead), (12, .dead), (13, .dead), (14, .dead), (15, .row 3 m15)], nx := 16, nt := 37 }
structure S34a where
  t25 : Int
  m15 : List (List AV)
inductive T34a where
  | x0 (t25 : Int) (m15 : List (List AV))
noncomputable def stp34a (t5 : Int) (t7 : Nat) (ws : List (List AV)) (t24 : Int) (t25 : Int) (m15 : List (List AV)) : Lp S34a T34a :=
  cond (decide (t25 < t24)) (cond (inb t25 ws.length) (cond (inb (fI (ws.getD t25.toNat []) 0) t7 && (0 + (fI (ws.getD t25.toNat []) 0).toNat).blt m15.length) (cond ((0 + (fI (ws.getD t25.toNat []) 0).toNat).blt m15.length) (cond (inb (fI (ws.getD t25.toNat []) 0) t7 && (0 + (fI (ws.getD t25.toNat []) 0).toNat).blt m15.length) (cond ((0 + (fI (ws.getD t25.toNat []) 0).toNat).blt m15.length) (.go ⟨IntKind.i64.wrap (t25 + 1), m15.set (0 + (fI (ws.getD t25.toNat []) 0).toNat) (setCs (m15.getD (0 + (fI (ws.getD t25.toNat []) 0).toNat) []) 0 [AV.i IntKind.i64 (IntKind.i64.wrap (fI (m15.getD (0 + (fI (ws.getD t25.toNat []) 0).toNat) []) 0 + 1))])⟩) (.bad)) (.bad)) (.bad)) (.bad)) (.bad)) (.out (.x0 t25 m15))
noncomputable def o34a_0 (t5 : Int) (t7 : Nat) (ws : List (List AV)) (t24 : Int) (t25 : Int) (m15 : List (List AV)) : St :=
  { t := [(4, .nl), (5, .i .i64 t5), (7, .sl 15 0 t7), (23, .rs 3 ws), (24, .i .i64 t24), (25, .i .i64 t25)], m := [(0, .dead), (1, .dead), (2, .dead), (3, .dead), (4, .dead), (5, .dead), (6, .dead), (7, .dead), (8, .dead), (9, .dead), (10, .dead), (11, .dead), (12, .dead), (13, .dead), (14, .dead), (15, .row 3 m15)], nx := 16, nt := 37 }
noncomputable def ou34a (t5 : Int) (t7 : Nat) (ws : List (List AV)) (t24 : Int) : T34a → Ex × St
  | .x0 t25 m15 => (.ext 0, o34a_0 t5 t7 ws t24 t25 m15)
noncomputable def r34a (t5 : Int) (t7 : Nat) (ws : List (List AV)) (t24 : Int) (t25 : Int) (m15 : List (List AV)) : Option T34a := run (fun x => stp34a t5 t7 ws t24 x.t25 x.m15) (⟨t25, m15⟩ : S34a)
noncomputable def i34a_0 (t5 : Int) (t7 : Nat) (ws : List (List AV)) (t24 : Int) (t25 : Int) (m15 : List (List AV)) : Bool := match r34a t5 t7 ws t24 t25 m15 with
  | some (.x0 _ _) => true
  | _ => false
noncomputable def v34a_0_t25 (t5 : Int) (t7 : Nat) (ws : List (List AV)) (t24 : Int) (t25 : Int) (m15 : List (List AV)) : Int := match r34a t5 t7 ws t24 t25 m15 with
  | some (.x0 t25 _) => t25
  | _ => default
noncomputable def v34a_0_m15 (t5 : Int) (t7 : Nat) (ws : List (List AV)) (t24 : Int) (t25 : Int) (m15 : List (List AV)) : List (List AV) := match r34a t5 t7 ws t24 t25 m15 with
  | some (.x0 _ m15) => m15
  | _ => default
noncomputable def l34a (st : St) : Option (List (Bool × Ex × St)) := match normW Try.prog [(4, none), (5, none), (7, none), (23, none), (24, none), (25, none)] 16 st with
  | some ([.nl, .i .i64 t5, .sl 15 0 t7, .rs 3 ws, .i .i64 t24, .i .i64 t25], [(0, .dead), (1, .dead), (2, .dead), (3, .dead), (4, .dead), (5, .dead), (6, .dead), (7, .dead), (8, .dead), (9, .dead), (10, .dead), (11, .dead), (12, .dead), (13, .dead), (14, .dead), (15, .row 3 m15)], 16, 37) => some [(i34a_0 t5 t7 ws t24 t25 m15, .ext 0, o34a_0 t5 t7 ws t24 (v34a_0_t25 t5 t7 ws t24 t25 m15) (v34a_0_m15 t5 t7 ws t24 t25 m15))]
  | _ => none
noncomputable def L34 : LSpec := fun p st => match p with
  | [false, true, false, true, true, true, true] => l34a st
  | _ => none
theorem is34a_0 (t5 : Int) (t7 : Nat) (ws : List (List AV)) (t24 : Int) (t25 : Int) (m15 : List (List AV)) (h : i34a_0 t5 t7 ws t24 t25 m15 = true) : r34a t5 t7 ws t24 t25 m15 = some (.x0 (v34a_0_t25 t5 t7 ws t24 t25 m15) (v34a_0_m15 t5 t7 ws t24 t25 m15)) := by
  unfold i34a_0 at h
  unfold v34a_0_t25 v34a_0_m15
  generalize r34a t5 t7 ws t24 t25 m15 = r at h ⊢
  rcases r with _ | y
  · cases h
  · cases y <;> first | rfl | cases h
theorem round34a (t5 : Int) (t7 : Nat) (ws : List (List AV)) (t24 : Int) (t25 : Int) (m15 : List (List AV)) : round Try.prog Sh (ro 34) L34 lp34a [false, true, false, true, true, true, true] [(4, none), (5, none), (7, none), (23, none), (24, none), (25, none)] 16 (s34a t5 t7 ws t24 t25 m15) =
    cond (decide (t25 < t24)) (cond (inb t25 ws.length) (cond (inb (fI (ws.getD t25.toNat []) 0) t7 && (0 + (fI (ws.getD t25.toNat []) 0).toNat).blt m15.length) (cond ((0 + (fI (ws.getD t25.toNat []) 0).toNat).blt m15.length) (cond (inb (fI (ws.getD t25.toNat []) 0) t7 && (0 + (fI (ws.getD t25.toNat []) 0).toNat).blt m15.length) (cond ((0 + (fI (ws.getD t25.toNat []) 0).toNat).blt m15.length) (some (.nrm, s34a t5 t7 ws t24 (IntKind.i64.wrap (t25 + 1)) (m15.set (0 + (fI (ws.getD t25.toNat []) 0).toNat) (setCs (m15.getD (0 + (fI (ws.getD t25.toNat []) 0).toNat) []) 0 [AV.i IntKind.i64 (IntKind.i64.wrap (fI (m15.getD (0 + (fI (ws.getD t25.toNat []) 0).toNat) []) 0 + 1))])))) (none)) (none)) (none)) (none)) (none)) (some (.ext 0, o34a_0 t5 t7 ws t24 t25 m15)) := by kernel_rfl
theorem rnd34a (t5 : Int) (t7 : Nat) (ws : List (List AV)) (t24 : Int) (x : S34a) : round Try.prog Sh (ro 34) L34 lp34a [false, true, false, true, true, true, true] [(4, none), (5, none), (7, none), (23, none), (24, none), (25, none)] 16 ((fun x => s34a t5 t7 ws t24 x.t25 x.m15) x) = toR (fun x => s34a t5 t7 ws t24 x.t25 x.m15) (ou34a t5 t7 ws t24) (stp34a t5 t7 ws t24 x.t25 x.m15) := by
  refine (round34a _ _ _ _ _ _ ).trans ?_
  unfold stp34a
  simp only [toR_cond]
  rfl
theorem lok34a {st : St} {outs : List (Bool × Ex × St)} {e : Ex} {s : St} (hl : l34a st = some outs) (hch : Chosen outs e s) :
    ∃ keep nb, 0 ≤ nb ∧ LB Try.prog Sh (ro 34) L34 lp34a [false, true, false, true, true, true, true] keep nb st e s := by
  unfold l34a at hl
  split at hl
  · rename_i t5 t7 ws t24 t25 m15 hno
    cases hl
    have hno := normW_norm hno
    refine ⟨_, _, ?_, .enter hno ?_⟩
    · decide
    have main := fun y h => LB_run (x := (⟨t25, m15⟩ : S34a)) (y := y) (nb := 16) (fun y => by cases y <;> simp [ou34a]) (rnd34a t5 t7 ws t24) h
    obtain ⟨x, hx, hg, rfl, rfl⟩ := chosen_any hch
    simp only [List.mem_cons, List.not_mem_nil, or_false] at hx
    subst hx
    exact main _ (is34a_0 t5 t7 ws t24 t25 m15 hg)
  · cases hl
theorem L34_ok (q : Pl) (c : Code) (hq : locate c34 q.reverse = some (.loop c)) (st : St) (outs : List (Bool × Ex × St)) (e : Ex) (s : St) (hl : L34 q st = some outs) (hch : Chosen outs e s) :
    ∃ keep nb, 0 ≤ nb ∧ LB Try.prog Sh (ro 34) L34 c q keep nb st e s := by
  unfold L34 at hl
  split at hl
  · have : locate c34 ([false, true, false, true, true, true, true] : Pl).reverse = some (.loop lp34a) := by kernel_rfl
    rw [this] at hq
    cases hq
    exact lok34a hl hch
  · cases hl
theorem lok34 : LOK Try.prog Sh (ro 34) L34 0 false c34 [] :=
  lok_lo L34_ok c34 [] false (locate_nil _) (by kernel_rfl)
noncomputable def t34 (ra rb rc : Int) (ps : List (List AV)) (ws : List (List AV)) : Tr ((List (List AV)) × (Int)) :=
  .cn (g29 ra rb rc ps) (.cn (w29_0 ra rb rc ps != 0) (.lf ([], w29_0 ra rb rc ps)) (.cn (g64 ra rb rc ps ws) (.cn (!w64_0 ra rb rc ps ws) (.lf ([], 8)) (.cn (decide ((↑ps.length : Int) = (↑ps.length : Int)) && (decide (0 ≤ (↑ps.length : Int)) && decide ((↑ps.length : Int) * (↑8 : Int) ≤ 140737488355328) && decide ((↑ps.length : Int) ≤ 9223372036854775807))) (.cn (i34a_0 0 (↑ps.length : Int).toNat ws (↑ws.length : Int) 0 (List.replicate (↑ps.length : Int).toNat [AV.i IntKind.i64 0])) (.cn ((0 + (↑ps.length : Int).toNat).ble (v34a_0_m15 0 (↑ps.length : Int).toNat ws (↑ws.length : Int) 0 (List.replicate (↑ps.length : Int).toNat [AV.i IntKind.i64 0])).length) (.lf (bif (↑ps.length : Int).toNat.beq (v34a_0_m15 0 (↑ps.length : Int).toNat ws (↑ws.length : Int) 0 (List.replicate (↑ps.length : Int).toNat [AV.i IntKind.i64 0])).length then v34a_0_m15 0 (↑ps.length : Int).toNat ws (↑ws.length : Int) 0 (List.replicate (↑ps.length : Int).toNat [AV.i IntKind.i64 0]) else List.take (↑ps.length : Int).toNat (List.drop 0 (v34a_0_m15 0 (↑ps.length : Int).toNat ws (↑ws.length : Int) 0 (List.replicate (↑ps.length : Int).toNat [AV.i IntKind.i64 0]))), 0)) (.nn)) (.nn)) (.nn))) (.nn))) (.nn)
noncomputable def g34 (ra rb rc : Int) (ps : List (List AV)) (ws : List (List AV)) : Bool := (t34 ra rb rc ps ws).g
noncomputable def w34_0 (ra rb rc : Int) (ps : List (List AV)) (ws : List (List AV)) : List (List AV) := (t34 ra rb rc ps ws).val.1
noncomputable def w34_1 (ra rb rc : Int) (ps : List (List AV)) (ws : List (List AV)) : Int := (t34 ra rb rc ps ws).val.2
noncomputable def a34 (ra rb rc : Int) (ps : List (List AV)) (ws : List (List AV)) : Tr AV :=
  .cn (g29 ra rb rc ps) (.cn (w29_0 ra rb rc ps != 0) (.lf (.tup [.nl, .i .i64 (w29_0 ra rb rc ps)])) (.cn (g64 ra rb rc ps ws) (.cn (!w64_0 ra rb rc ps ws) (.lf (.tup [.nl, .i .i64 8])) (.cn (decide ((↑ps.length : Int) = (↑ps.length : Int)) && (decide (0 ≤ (↑ps.length : Int)) && decide ((↑ps.length : Int) * (↑8 : Int) ≤ 140737488355328) && decide ((↑ps.length : Int) ≤ 9223372036854775807))) (.cn (i34a_0 0 (↑ps.length : Int).toNat ws (↑ws.length : Int) 0 (List.replicate (↑ps.length : Int).toNat [AV.i IntKind.i64 0])) (.cn ((0 + (↑ps.length : Int).toNat).ble (v34a_0_m15 0 (↑ps.length : Int).toNat ws (↑ws.length : Int) 0 (List.replicate (↑ps.length : Int).toNat [AV.i IntKind.i64 0])).length) (.lf (.tup [.rs 3 (bif (↑ps.length : Int).toNat.beq (v34a_0_m15 0 (↑ps.length : Int).toNat ws (↑ws.length : Int) 0 (List.replicate (↑ps.length : Int).toNat [AV.i IntKind.i64 0])).length then v34a_0_m15 0 (↑ps.length : Int).toNat ws (↑ws.length : Int) 0 (List.replicate (↑ps.length : Int).toNat [AV.i IntKind.i64 0]) else List.take (↑ps.length : Int).toNat (List.drop 0 (v34a_0_m15 0 (↑ps.length : Int).toNat ws (↑ws.length : Int) 0 (List.replicate (↑ps.length : Int).toNat [AV.i IntKind.i64 0])))), .i .i64 0])) (.nn)) (.nn)) (.nn))) (.nn))) (.nn)
theorem eq34 (ra rb rc : Int) (ps : List (List AV)) (ws : List (List AV)) : evF Try.prog Sh (ro 34) L34 Try.f34 [.agg [.i .i64 ra, .i .i64 rb, .i .i64 rc, .rs 31 ps], .rs 3 ws] = (a34 ra rb rc ps ws).opt id := by kernel_rfl
theorem wk34 (ra rb rc : Int) (ps : List (List AV)) (ws : List (List AV)) : (a34 ra rb rc ps ws).map (wkV [some 3, none]) = (t34 ra rb rc ps ws).map (fun (x : (List (List AV)) × (Int)) => (.tup [.rs 3 x.1, .i .i64 x.2] : AV)) := by kernel_rfl
theorem con34 (ra rb rc : Int) (ps : List (List AV)) (ws : List (List AV)) (h : g34 ra rb rc ps ws = true) : Con Try.prog 34 [.agg [.i .i64 ra, .i .i64 rb, .i .i64 rc, .rs 31 ps], .rs 3 ws] [] (.tup [.rs 3 (w34_0 ra rb rc ps ws), .i .i64 (w34_1 ra rb rc ps ws)]) [] := by
  obtain ⟨v, h1, h2⟩ := Tr.soundW (eq34 ra rb rc ps ws) (wk34 ra rb rc ps ws) h
  have := (con_of Sh_ok mixed Try.func34 (c := c34) rfl (names 34 _ Try.func34) lok34 h1).wk [some 3, none]
  rw [h2] at this
  exact this
noncomputable def e34 (args : List AV) (rows : List Blk) : Option (Bool × AV × List Blk) := match args, rows with
  | [.agg [.i .i64 ra, .i .i64 rb, .i .i64 rc, .rs 31 ps], .rs 3 ws], [] => some (g34 ra rb rc ps ws, .tup [.rs 3 (w34_0 ra rb rc ps ws), .i .i64 (w34_1 ra rb rc ps ws)], [])
  | _, _ => none
theorem e34_ok (args : List AV) (rows : List Blk) (pre : Bool) (v : AV) (rows' : List Blk) (h : e34 args rows = some (pre, v, rows')) (hp : pre = true) : Con Try.prog 34 args rows v rows' := by
  unfold e34 at h
  split at h
  · cases h; exact con34 _ _ _ _ _ hp
  · cases h
-- SPEC 34
end Go.Proofs.Ytgifjphinkbcaaa

set_option maxRecDepth 100000
set_option linter.unusedVariables false
namespace Go.Proofs.Ytgifjphinkbcaaa
open Go Go.Ev

/-! ### ref Needs -/
noncomputable def c35 : Code := match Try.f35.body with | some c => c | _ => .skip
noncomputable def lp35a : Code := loopAt c35 [true, true, true, true, true, false, true, false]
noncomputable def s35a (ws : List (List AV)) (t5 : Int) (t7 : Nat) (t8 : Int) (m19 : List (List AV)) : St :=
  { t := [(1, .rs 3 ws), (4, .nl), (5, .i .i64 t5), (7, .sl 19 0 t7), (8, .i .i64 t8)], m := [(0, .dead), (1, .dead), (2, .dead), (3, .dead), (4, .dead), (5, .dead), (6, .dead), (7, .dead), (8, .dead), (9, .dead), (10, .dead), (11, .dead), (12, .dead), (13, .dead), (14, .dead), (15, .dead), (16, .dead), (17, .dead), (18, .dead), (19, .row 3 m19)], nx := 20, nt := 42 }
structure S35a where
  t8 : Int
  m19 : List (List AV)
inductive T35a where
  | x0 (t8 : Int) (m19 : List (List AV))
noncomputable def stp35a (ws : List (List AV)) (t5 : Int) (t7 : Nat) (t8 : Int) (m19 : List (List AV)) : Lp S35a T35a :=
  cond (decide (t8 < (↑ws.length : Int))) (cond (inb t8 ws.length) (cond (inb (fI (ws.getD t8.toNat []) 0) t7 && (0 + (fI (ws.getD t8.toNat []) 0).toNat).blt m19.length) (cond ((0 + (fI (ws.getD t8.toNat []) 0).toNat).blt m19.length) (cond (inb (fI (ws.getD t8.toNat []) 0) t7 && (0 + (fI (ws.getD t8.toNat []) 0).toNat).blt m19.length) (cond ((0 + (fI (ws.getD t8.toNat []) 0).toNat).blt m19.length) (.go ⟨IntKind.i64.wrap (t8 + 1), m19.set (0 + (fI (ws.getD t8.toNat []) 0).toNat) (setCs (m19.getD (0 + (fI (ws.getD t8.toNat []) 0).toNat) []) 0 [AV.i IntKind.i64 (IntKind.i64.wrap (fI (m19.getD (0 + (fI (ws.getD t8.toNat []) 0).toNat) []) 0 + 1))])⟩) (.bad)) (.bad)) (.bad)) (.bad)) (.bad)) (.out (.x0 t8 m19))
noncomputable def o35a_0 (ws : List (List AV)) (t5 : Int) (t7 : Nat) (t8 : Int) (m19 : List (List AV)) : St :=
  { t := [(1, .rs 3 ws), (4, .nl), (5, .i .i64 t5), (7, .sl 19 0 t7), (8, .i .i64 t8)], m := [(0, .dead), (1, .dead), (2, .dead), (3, .dead), (4, .dead), (5, .dead), (6, .dead), (7, .dead), (8, .dead), (9, .dead), (10, .dead), (11, .dead), (12, .dead), (13, .dead), (14, .dead), (15, .dead), (16, .dead), (17, .dead), (18, .dead), (19, .row 3 m19)], nx := 20, nt := 42 }
noncomputable def ou35a (ws : List (List AV)) (t5 : Int) (t7 : Nat) : T35a → Ex × St
  | .x0 t8 m19 => (.ext 0, o35a_0 ws t5 t7 t8 m19)
noncomputable def r35a (ws : List (List AV)) (t5 : Int) (t7 : Nat) (t8 : Int) (m19 : List (List AV)) : Option T35a := run (fun x => stp35a ws t5 t7 x.t8 x.m19) (⟨t8, m19⟩ : S35a)
noncomputable def i35a_0 (ws : List (List AV)) (t5 : Int) (t7 : Nat) (t8 : Int) (m19 : List (List AV)) : Bool := match r35a ws t5 t7 t8 m19 with
  | some (.x0 _ _) => true
  | _ => false
noncomputable def v35a_0_t8 (ws : List (List AV)) (t5 : Int) (t7 : Nat) (t8 : Int) (m19 : List (List AV)) : Int := match r35a ws t5 t7 t8 m19 with
  | some (.x0 t8 _) => t8
  | _ => default
noncomputable def v35a_0_m19 (ws : List (List AV)) (t5 : Int) (t7 : Nat) (t8 : Int) (m19 : List (List AV)) : List (List AV) := match r35a ws t5 t7 t8 m19 with
  | some (.x0 _ m19) => m19
  | _ => default
noncomputable def l35a (st : St) : Option (List (Bool × Ex × St)) := match normW Try.prog [(1, none), (4, none), (5, none), (7, none), (8, none)] 20 st with
  | some ([.rs 3 ws, .nl, .i .i64 t5, .sl 19 0 t7, .i .i64 t8], [(0, .dead), (1, .dead), (2, .dead), (3, .dead), (4, .dead), (5, .dead), (6, .dead), (7, .dead), (8, .dead), (9, .dead), (10, .dead), (11, .dead), (12, .dead), (13, .dead), (14, .dead), (15, .dead), (16, .dead), (17, .dead), (18, .dead), (19, .row 3 m19)], 20, 42) => some [(i35a_0 ws t5 t7 t8 m19, .ext 0, o35a_0 ws t5 t7 (v35a_0_t8 ws t5 t7 t8 m19) (v35a_0_m19 ws t5 t7 t8 m19))]
  | _ => none
noncomputable def L35 : LSpec := fun p st => match p with
  | [false, true, false, true, true, true, true, true] => l35a st
  | _ => none
theorem is35a_0 (ws : List (List AV)) (t5 : Int) (t7 : Nat) (t8 : Int) (m19 : List (List AV)) (h : i35a_0 ws t5 t7 t8 m19 = true) : r35a ws t5 t7 t8 m19 = some (.x0 (v35a_0_t8 ws t5 t7 t8 m19) (v35a_0_m19 ws t5 t7 t8 m19)) := by
  unfold i35a_0 at h
  unfold v35a_0_t8 v35a_0_m19
  generalize r35a ws t5 t7 t8 m19 = r at h ⊢
  rcases r with _ | y
  · cases h
  · cases y <;> first | rfl | cases h
theorem round35a (ws : List (List AV)) (t5 : Int) (t7 : Nat) (t8 : Int) (m19 : List (List AV)) : round Try.prog Sh (ro 35) L35 lp35a [false, true, false, true, true, true, true, true] [(1, none), (4, none), (5, none), (7, none), (8, none)] 20 (s35a ws t5 t7 t8 m19) =
    cond (decide (t8 < (↑ws.length : Int))) (cond (inb t8 ws.length) (cond (inb (fI (ws.getD t8.toNat []) 0) t7 && (0 + (fI (ws.getD t8.toNat []) 0).toNat).blt m19.length) (cond ((0 + (fI (ws.getD t8.toNat []) 0).toNat).blt m19.length) (cond (inb (fI (ws.getD t8.toNat []) 0) t7 && (0 + (fI (ws.getD t8.toNat []) 0).toNat).blt m19.length) (cond ((0 + (fI (ws.getD t8.toNat []) 0).toNat).blt m19.length) (some (.nrm, s35a ws t5 t7 (IntKind.i64.wrap (t8 + 1)) (m19.set (0 + (fI (ws.getD t8.toNat []) 0).toNat) (setCs (m19.getD (0 + (fI (ws.getD t8.toNat []) 0).toNat) []) 0 [AV.i IntKind.i64 (IntKind.i64.wrap (fI (m19.getD (0 + (fI (ws.getD t8.toNat []) 0).toNat) []) 0 + 1))])))) (none)) (none)) (none)) (none)) (none)) (some (.ext 0, o35a_0 ws t5 t7 t8 m19)) := by kernel_rfl
theorem rnd35a (ws : List (List AV)) (t5 : Int) (t7 : Nat) (x : S35a) : round Try.prog Sh (ro 35) L35 lp35a [false, true, false, true, true, true, true, true] [(1, none), (4, none), (5, none), (7, none), (8, none)] 20 ((fun x => s35a ws t5 t7 x.t8 x.m19) x) = toR (fun x => s35a ws t5 t7 x.t8 x.m19) (ou35a ws t5 t7) (stp35a ws t5 t7 x.t8 x.m19) := by
  refine (round35a _ _ _ _ _ ).trans ?_
  unfold stp35a
  simp only [toR_cond]
  rfl
theorem lok35a {st : St} {outs : List (Bool × Ex × St)} {e : Ex} {s : St} (hl : l35a st = some outs) (hch : Chosen outs e s) :
    ∃ keep nb, 0 ≤ nb ∧ LB Try.prog Sh (ro 35) L35 lp35a [false, true, false, true, true, true, true, true] keep nb st e s := by
  unfold l35a at hl
  split at hl
  · rename_i ws t5 t7 t8 m19 hno
    cases hl
    have hno := normW_norm hno
    refine ⟨_, _, ?_, .enter hno ?_⟩
    · decide
    have main := fun y h => LB_run (x := (⟨t8, m19⟩ : S35a)) (y := y) (nb := 20) (fun y => by cases y <;> simp [ou35a]) (rnd35a ws t5 t7) h
    obtain ⟨x, hx, hg, rfl, rfl⟩ := chosen_any hch
    simp only [List.mem_cons, List.not_mem_nil, or_false] at hx
    subst hx
    exact main _ (is35a_0 ws t5 t7 t8 m19 hg)
  · cases hl
theorem L35_ok (q : Pl) (c : Code) (hq : locate c35 q.reverse = some (.loop c)) (st : St) (outs : List (Bool × Ex × St)) (e : Ex) (s : St) (hl : L35 q st = some outs) (hch : Chosen outs e s) :
    ∃ keep nb, 0 ≤ nb ∧ LB Try.prog Sh (ro 35) L35 c q keep nb st e s := by
  unfold L35 at hl
  split at hl
  · have : locate c35 ([false, true, false, true, true, true, true, true] : Pl).reverse = some (.loop lp35a) := by kernel_rfl
    rw [this] at hq
    cases hq
    exact lok35a hl hch
  · cases hl
theorem lok35 : LOK Try.prog Sh (ro 35) L35 0 false c35 [] :=
  lok_lo L35_ok c35 [] false (locate_nil _) (by kernel_rfl)
noncomputable def t35 (ra rb rc : Int) (ps : List (List AV)) (ws : List (List AV)) : Tr ((List (List AV)) × (Int)) :=
  .cn (g33 ra rb rc ps) (.cn (w33_0 ra rb rc ps == 0) (.cn (g65 ra rb rc ps ws) (.cn (!w65_0 ra rb rc ps ws) (.lf ([], 8)) (.cn (w33_0 ra rb rc ps != 0) (.lf ([], w33_0 ra rb rc ps)) (.cn (decide ((↑ps.length : Int) = (↑ps.length : Int)) && (decide (0 ≤ (↑ps.length : Int)) && decide ((↑ps.length : Int) * (↑8 : Int) ≤ 140737488355328) && decide ((↑ps.length : Int) ≤ 9223372036854775807))) (.cn (i35a_0 ws 0 (↑ps.length : Int).toNat 0 (List.replicate (↑ps.length : Int).toNat [AV.i IntKind.i64 0])) (.cn ((0 + (↑ps.length : Int).toNat).ble (v35a_0_m19 ws 0 (↑ps.length : Int).toNat 0 (List.replicate (↑ps.length : Int).toNat [AV.i IntKind.i64 0])).length) (.lf (bif (↑ps.length : Int).toNat.beq (v35a_0_m19 ws 0 (↑ps.length : Int).toNat 0 (List.replicate (↑ps.length : Int).toNat [AV.i IntKind.i64 0])).length then v35a_0_m19 ws 0 (↑ps.length : Int).toNat 0 (List.replicate (↑ps.length : Int).toNat [AV.i IntKind.i64 0]) else List.take (↑ps.length : Int).toNat (List.drop 0 (v35a_0_m19 ws 0 (↑ps.length : Int).toNat 0 (List.replicate (↑ps.length : Int).toNat [AV.i IntKind.i64 0]))), 0)) (.nn)) (.nn)) (.nn)))) (.nn)) (.cn (w33_0 ra rb rc ps != 0) (.lf ([], w33_0 ra rb rc ps)) (.cn (decide ((↑ps.length : Int) = (↑ps.length : Int)) && (decide (0 ≤ (↑ps.length : Int)) && decide ((↑ps.length : Int) * (↑8 : Int) ≤ 140737488355328) && decide ((↑ps.length : Int) ≤ 9223372036854775807))) (.cn (i35a_0 ws 0 (↑ps.length : Int).toNat 0 (List.replicate (↑ps.length : Int).toNat [AV.i IntKind.i64 0])) (.cn ((0 + (↑ps.length : Int).toNat).ble (v35a_0_m19 ws 0 (↑ps.length : Int).toNat 0 (List.replicate (↑ps.length : Int).toNat [AV.i IntKind.i64 0])).length) (.lf (bif (↑ps.length : Int).toNat.beq (v35a_0_m19 ws 0 (↑ps.length : Int).toNat 0 (List.replicate (↑ps.length : Int).toNat [AV.i IntKind.i64 0])).length then v35a_0_m19 ws 0 (↑ps.length : Int).toNat 0 (List.replicate (↑ps.length : Int).toNat [AV.i IntKind.i64 0]) else List.take (↑ps.length : Int).toNat (List.drop 0 (v35a_0_m19 ws 0 (↑ps.length : Int).toNat 0 (List.replicate (↑ps.length : Int).toNat [AV.i IntKind.i64 0]))), 0)) (.nn)) (.nn)) (.nn)))) (.nn)
noncomputable def g35 (ra rb rc : Int) (ps : List (List AV)) (ws : List (List AV)) : Bool := (t35 ra rb rc ps ws).g
noncomputable def w35_0 (ra rb rc : Int) (ps : List (List AV)) (ws : List (List AV)) : List (List AV) := (t35 ra rb rc ps ws).val.1
noncomputable def w35_1 (ra rb rc : Int) (ps : List (List AV)) (ws : List (List AV)) : Int := (t35 ra rb rc ps ws).val.2
noncomputable def a35 (ra rb rc : Int) (ps : List (List AV)) (ws : List (List AV)) : Tr AV :=
  .cn (g33 ra rb rc ps) (.cn (w33_0 ra rb rc ps == 0) (.cn (g65 ra rb rc ps ws) (.cn (!w65_0 ra rb rc ps ws) (.lf (.tup [.nl, .i .i64 8])) (.cn (w33_0 ra rb rc ps != 0) (.lf (.tup [.nl, .i .i64 (w33_0 ra rb rc ps)])) (.cn (decide ((↑ps.length : Int) = (↑ps.length : Int)) && (decide (0 ≤ (↑ps.length : Int)) && decide ((↑ps.length : Int) * (↑8 : Int) ≤ 140737488355328) && decide ((↑ps.length : Int) ≤ 9223372036854775807))) (.cn (i35a_0 ws 0 (↑ps.length : Int).toNat 0 (List.replicate (↑ps.length : Int).toNat [AV.i IntKind.i64 0])) (.cn ((0 + (↑ps.length : Int).toNat).ble (v35a_0_m19 ws 0 (↑ps.length : Int).toNat 0 (List.replicate (↑ps.length : Int).toNat [AV.i IntKind.i64 0])).length) (.lf (.tup [.rs 3 (bif (↑ps.length : Int).toNat.beq (v35a_0_m19 ws 0 (↑ps.length : Int).toNat 0 (List.replicate (↑ps.length : Int).toNat [AV.i IntKind.i64 0])).length then v35a_0_m19 ws 0 (↑ps.length : Int).toNat 0 (List.replicate (↑ps.length : Int).toNat [AV.i IntKind.i64 0]) else List.take (↑ps.length : Int).toNat (List.drop 0 (v35a_0_m19 ws 0 (↑ps.length : Int).toNat 0 (List.replicate (↑ps.length : Int).toNat [AV.i IntKind.i64 0])))), .i .i64 0])) (.nn)) (.nn)) (.nn)))) (.nn)) (.cn (w33_0 ra rb rc ps != 0) (.lf (.tup [.nl, .i .i64 (w33_0 ra rb rc ps)])) (.cn (decide ((↑ps.length : Int) = (↑ps.length : Int)) && (decide (0 ≤ (↑ps.length : Int)) && decide ((↑ps.length : Int) * (↑8 : Int) ≤ 140737488355328) && decide ((↑ps.length : Int) ≤ 9223372036854775807))) (.cn (i35a_0 ws 0 (↑ps.length : Int).toNat 0 (List.replicate (↑ps.length : Int).toNat [AV.i IntKind.i64 0])) (.cn ((0 + (↑ps.length : Int).toNat).ble (v35a_0_m19 ws 0 (↑ps.length : Int).toNat 0 (List.replicate (↑ps.length : Int).toNat [AV.i IntKind.i64 0])).length) (.lf (.tup [.rs 3 (bif (↑ps.length : Int).toNat.beq (v35a_0_m19 ws 0 (↑ps.length : Int).toNat 0 (List.replicate (↑ps.length : Int).toNat [AV.i IntKind.i64 0])).length then v35a_0_m19 ws 0 (↑ps.length : Int).toNat 0 (List.replicate (↑ps.length : Int).toNat [AV.i IntKind.i64 0]) else List.take (↑ps.length : Int).toNat (List.drop 0 (v35a_0_m19 ws 0 (↑ps.length : Int).toNat 0 (List.replicate (↑ps.length : Int).toNat [AV.i IntKind.i64 0])))), .i .i64 0])) (.nn)) (.nn)) (.nn)))) (.nn)
theorem eq35 (ra rb rc : Int) (ps : List (List AV)) (ws : List (List AV)) : evF Try.prog Sh (ro 35) L35 Try.f35 [.agg [.i .i64 ra, .i .i64 rb, .i .i64 rc, .rs 31 ps], .rs 3 ws] = (a35 ra rb rc ps ws).opt id := by kernel_rfl
theorem wk35 (ra rb rc : Int) (ps : List (List AV)) (ws : List (List AV)) : (a35 ra rb rc ps ws).map (wkV [some 3, none]) = (t35 ra rb rc ps ws).map (fun (x : (List (List AV)) × (Int)) => (.tup [.rs 3 x.1, .i .i64 x.2] : AV)) := by kernel_rfl
theorem con35 (ra rb rc : Int) (ps : List (List AV)) (ws : List (List AV)) (h : g35 ra rb rc ps ws = true) : Con Try.prog 35 [.agg [.i .i64 ra, .i .i64 rb, .i .i64 rc, .rs 31 ps], .rs 3 ws] [] (.tup [.rs 3 (w35_0 ra rb rc ps ws), .i .i64 (w35_1 ra rb rc ps ws)]) [] := by
  obtain ⟨v, h1, h2⟩ := Tr.soundW (eq35 ra rb rc ps ws) (wk35 ra rb rc ps ws) h
  have := (con_of Sh_ok mixed Try.func35 (c := c35) rfl (names 35 _ Try.func35) lok35 h1).wk [some 3, none]
  rw [h2] at this
  exact this
noncomputable def e35 (args : List AV) (rows : List Blk) : Option (Bool × AV × List Blk) := match args, rows with
  | [.agg [.i .i64 ra, .i .i64 rb, .i .i64 rc, .rs 31 ps], .rs 3 ws], [] => some (g35 ra rb rc ps ws, .tup [.rs 3 (w35_0 ra rb rc ps ws), .i .i64 (w35_1 ra rb rc ps ws)], [])
  | _, _ => none
theorem e35_ok (args : List AV) (rows : List Blk) (pre : Bool) (v : AV) (rows' : List Blk) (h : e35 args rows = some (pre, v, rows')) (hp : pre = true) : Con Try.prog 35 args rows v rows' := by
  unfold e35 at h
  split at h
  · cases h; exact con35 _ _ _ _ _ hp
  · cases h
-- SPEC 35
end Go.Proofs.Ytgifjphinkbcaaa

set_option maxRecDepth 100000
set_option linter.unusedVariables false
namespace Go.Proofs.Ytgifjphinkbcaaa
open Go Go.Ev

/-! ### Rank -/
noncomputable def c42 : Code := match Try.f42.body with | some c => c | _ => .skip
noncomputable def lp42a : Code := loopAt c42 [true, true, true, true, true, false, true, false]
noncomputable def s42a (ra : Int) (rb : Int) (rc : Int) (ps : List (List AV)) (t4 : Int) (t5 : Int) (t6 : List (List AV)) (t8 : Int) (ws : List (List AV)) (t31 : Int) (t32 : Int) (m18_0 : Int) (m18_1 : Int) : St :=
  { t := [(2, .rp [.int .i64, .int .i64, .int .i64, .sl 31] [.i .i64 ra, .i .i64 rb, .i .i64 rc, .rs 31 ps] 0), (4, .i .i64 t4), (5, .i .i64 t5), (6, .rs 91 t6), (8, .i .i64 t8), (9, .p 18 0 0), (30, .rs 3 ws), (31, .i .i64 t31), (32, .i .i64 t32)], m := [(0, .dead), (1, .dead), (2, .dead), (3, .dead), (4, .dead), (5, .dead), (6, .dead), (7, .dead), (8, .dead), (9, .dead), (10, .dead), (11, .dead), (12, .dead), (13, .dead), (14, .dead), (15, .dead), (16, .dead), (17, .dead), (18, .row 78 [[.i .i64 m18_0, .i .i64 m18_1]])], nx := 19, nt := 70 }
noncomputable def lp42aa : Code := loopAt c42 [true, true, true, true, true, false, true, false, false, true, true, false, false, true, false, true, false]
noncomputable def s42aa (ra : Int) (rb : Int) (rc : Int) (ps : List (List AV)) (t4 : Int) (t5 : Int) (t6 : List (List AV)) (t8 : Int) (t11 : Int) (ws : List (List AV)) (t31 : Int) (t32 : Int) (t39 : List (List AV)) (t40 : Int) (t41 : Int) (m18_0 : Int) (m18_1 : Int) : St :=
  { t := [(2, .rp [.int .i64, .int .i64, .int .i64, .sl 31] [.i .i64 ra, .i .i64 rb, .i .i64 rc, .rs 31 ps] 0), (4, .i .i64 t4), (5, .i .i64 t5), (6, .rs 91 t6), (8, .i .i64 t8), (9, .p 18 0 0), (11, .i .i64 t11), (30, .rs 3 ws), (31, .i .i64 t31), (32, .i .i64 t32), (39, .rs 31 t39), (40, .i .i64 t40), (41, .i .i64 t41)], m := [(0, .dead), (1, .dead), (2, .dead), (3, .dead), (4, .dead), (5, .dead), (6, .dead), (7, .dead), (8, .dead), (9, .dead), (10, .dead), (11, .dead), (12, .dead), (13, .dead), (14, .dead), (15, .dead), (16, .dead), (17, .dead), (18, .row 78 [[.i .i64 m18_0, .i .i64 m18_1]])], nx := 19, nt := 70 }
structure S42aa where
  t8 : Int
  t41 : Int
inductive T42aa where
  | x0 (t8 : Int) (t41 : Int)
noncomputable def stp42aa (ra : Int) (rb : Int) (rc : Int) (ps : List (List AV)) (t4 : Int) (t5 : Int) (t6 : List (List AV)) (t11 : Int) (ws : List (List AV)) (t31 : Int) (t32 : Int) (t39 : List (List AV)) (t40 : Int) (m18_0 : Int) (m18_1 : Int) (t8 : Int) (t41 : Int) : Lp S42aa T42aa :=
  cond (decide (t41 < t40)) (cond (inb t41 t39.length) (cond (g71 m18_0 m18_1 (fS (t39.getD t41.toNat []) 0) (fI (t39.getD t41.toNat []) 1) (fI (t39.getD t41.toNat []) 2) (fI (t39.getD t41.toNat []) 3) (fI (t39.getD t41.toNat []) 4)) (cond (w71_2 m18_0 m18_1 (fS (t39.getD t41.toNat []) 0) (fI (t39.getD t41.toNat []) 1) (fI (t39.getD t41.toNat []) 2) (fI (t39.getD t41.toNat []) 3) (fI (t39.getD t41.toNat []) 4)) (cond (g51 t6 (w71_0 m18_0 m18_1 (fS (t39.getD t41.toNat []) 0) (fI (t39.getD t41.toNat []) 1) (fI (t39.getD t41.toNat []) 2) (fI (t39.getD t41.toNat []) 3) (fI (t39.getD t41.toNat []) 4)) (w71_1 m18_0 m18_1 (fS (t39.getD t41.toNat []) 0) (fI (t39.getD t41.toNat []) 1) (fI (t39.getD t41.toNat []) 2) (fI (t39.getD t41.toNat []) 3) (fI (t39.getD t41.toNat []) 4))) (.go ⟨IntKind.i64.wrap (t8 + w51_0 t6 (w71_0 m18_0 m18_1 (fS (t39.getD t41.toNat []) 0) (fI (t39.getD t41.toNat []) 1) (fI (t39.getD t41.toNat []) 2) (fI (t39.getD t41.toNat []) 3) (fI (t39.getD t41.toNat []) 4)) (w71_1 m18_0 m18_1 (fS (t39.getD t41.toNat []) 0) (fI (t39.getD t41.toNat []) 1) (fI (t39.getD t41.toNat []) 2) (fI (t39.getD t41.toNat []) 3) (fI (t39.getD t41.toNat []) 4))), IntKind.i64.wrap (t41 + 1)⟩) (.bad)) (.go ⟨t8, IntKind.i64.wrap (t41 + 1)⟩)) (.bad)) (.bad)) (.out (.x0 t8 t41))
noncomputable def o42aa_0 (ra : Int) (rb : Int) (rc : Int) (ps : List (List AV)) (t4 : Int) (t5 : Int) (t6 : List (List AV)) (t11 : Int) (ws : List (List AV)) (t31 : Int) (t32 : Int) (t39 : List (List AV)) (t40 : Int) (m18_0 : Int) (m18_1 : Int) (t8 : Int) (t41 : Int) : St :=
  { t := [(2, .rp [.int .i64, .int .i64, .int .i64, .sl 31] [.i .i64 ra, .i .i64 rb, .i .i64 rc, .rs 31 ps] 0), (4, .i .i64 t4), (5, .i .i64 t5), (6, .rs 91 t6), (8, .i .i64 t8), (9, .p 18 0 0), (11, .i .i64 t11), (30, .rs 3 ws), (31, .i .i64 t31), (32, .i .i64 t32), (39, .rs 31 t39), (40, .i .i64 t40), (41, .i .i64 t41)], m := [(0, .dead), (1, .dead), (2, .dead), (3, .dead), (4, .dead), (5, .dead), (6, .dead), (7, .dead), (8, .dead), (9, .dead), (10, .dead), (11, .dead), (12, .dead), (13, .dead), (14, .dead), (15, .dead), (16, .dead), (17, .dead), (18, .row 78 [[.i .i64 m18_0, .i .i64 m18_1]])], nx := 19, nt := 70 }
noncomputable def ou42aa (ra : Int) (rb : Int) (rc : Int) (ps : List (List AV)) (t4 : Int) (t5 : Int) (t6 : List (List AV)) (t11 : Int) (ws : List (List AV)) (t31 : Int) (t32 : Int) (t39 : List (List AV)) (t40 : Int) (m18_0 : Int) (m18_1 : Int) : T42aa → Ex × St
  | .x0 t8 t41 => (.ext 2, o42aa_0 ra rb rc ps t4 t5 t6 t11 ws t31 t32 t39 t40 m18_0 m18_1 t8 t41)
noncomputable def r42aa (ra : Int) (rb : Int) (rc : Int) (ps : List (List AV)) (t4 : Int) (t5 : Int) (t6 : List (List AV)) (t11 : Int) (ws : List (List AV)) (t31 : Int) (t32 : Int) (t39 : List (List AV)) (t40 : Int) (m18_0 : Int) (m18_1 : Int) (t8 : Int) (t41 : Int) : Option T42aa := run (fun x => stp42aa ra rb rc ps t4 t5 t6 t11 ws t31 t32 t39 t40 m18_0 m18_1 x.t8 x.t41) (⟨t8, t41⟩ : S42aa)
noncomputable def i42aa_0 (ra : Int) (rb : Int) (rc : Int) (ps : List (List AV)) (t4 : Int) (t5 : Int) (t6 : List (List AV)) (t11 : Int) (ws : List (List AV)) (t31 : Int) (t32 : Int) (t39 : List (List AV)) (t40 : Int) (m18_0 : Int) (m18_1 : Int) (t8 : Int) (t41 : Int) : Bool := match r42aa ra rb rc ps t4 t5 t6 t11 ws t31 t32 t39 t40 m18_0 m18_1 t8 t41 with
  | some (.x0 _ _) => true
  | _ => false
noncomputable def v42aa_0_t8 (ra : Int) (rb : Int) (rc : Int) (ps : List (List AV)) (t4 : Int) (t5 : Int) (t6 : List (List AV)) (t11 : Int) (ws : List (List AV)) (t31 : Int) (t32 : Int) (t39 : List (List AV)) (t40 : Int) (m18_0 : Int) (m18_1 : Int) (t8 : Int) (t41 : Int) : Int := match r42aa ra rb rc ps t4 t5 t6 t11 ws t31 t32 t39 t40 m18_0 m18_1 t8 t41 with
  | some (.x0 t8 _) => t8
  | _ => default
noncomputable def v42aa_0_t41 (ra : Int) (rb : Int) (rc : Int) (ps : List (List AV)) (t4 : Int) (t5 : Int) (t6 : List (List AV)) (t11 : Int) (ws : List (List AV)) (t31 : Int) (t32 : Int) (t39 : List (List AV)) (t40 : Int) (m18_0 : Int) (m18_1 : Int) (t8 : Int) (t41 : Int) : Int := match r42aa ra rb rc ps t4 t5 t6 t11 ws t31 t32 t39 t40 m18_0 m18_1 t8 t41 with
  | some (.x0 _ t41) => t41
  | _ => default
noncomputable def l42aa (st : St) : Option (List (Bool × Ex × St)) := match normW Try.prog [(2, none), (4, none), (5, none), (6, none), (8, none), (9, none), (11, none), (30, none), (31, none), (32, none), (39, none), (40, none), (41, none)] 19 st with
  | some ([.rp [.int .i64, .int .i64, .int .i64, .sl 31] [.i .i64 ra, .i .i64 rb, .i .i64 rc, .rs 31 ps] 0, .i .i64 t4, .i .i64 t5, .rs 91 t6, .i .i64 t8, .p 18 0 0, .i .i64 t11, .rs 3 ws, .i .i64 t31, .i .i64 t32, .rs 31 t39, .i .i64 t40, .i .i64 t41], [(0, .dead), (1, .dead), (2, .dead), (3, .dead), (4, .dead), (5, .dead), (6, .dead), (7, .dead), (8, .dead), (9, .dead), (10, .dead), (11, .dead), (12, .dead), (13, .dead), (14, .dead), (15, .dead), (16, .dead), (17, .dead), (18, .row 78 [[.i .i64 m18_0, .i .i64 m18_1]])], 19, 70) => some [(i42aa_0 ra rb rc ps t4 t5 t6 t11 ws t31 t32 t39 t40 m18_0 m18_1 t8 t41, .ext 2, o42aa_0 ra rb rc ps t4 t5 t6 t11 ws t31 t32 t39 t40 m18_0 m18_1 (v42aa_0_t8 ra rb rc ps t4 t5 t6 t11 ws t31 t32 t39 t40 m18_0 m18_1 t8 t41) (v42aa_0_t41 ra rb rc ps t4 t5 t6 t11 ws t31 t32 t39 t40 m18_0 m18_1 t8 t41))]
  | _ => none
structure S42a where
  t8 : Int
  t32 : Int
  m18_0 : Int
  m18_1 : Int
inductive T42a where
  | x0 (t8 : Int) (t32 : Int) (m18_0 : Int) (m18_1 : Int)
noncomputable def stp42a (ra : Int) (rb : Int) (rc : Int) (ps : List (List AV)) (t4 : Int) (t5 : Int) (t6 : List (List AV)) (ws : List (List AV)) (t31 : Int) (t8 : Int) (t32 : Int) (m18_0 : Int) (m18_1 : Int) : Lp S42a T42a :=
  cond (decide (t32 < t31)) (cond (inb t32 ws.length) (cond (decide (0 ≤ fI (ws.getD t32.toNat []) 0) && decide (fI (ws.getD t32.toNat []) 0 ≤ (↑ps.length : Int))) (cond (i42aa_0 ra rb rc ps t4 t5 t6 (fI (ws.getD t32.toNat []) 0) ws t31 t32 (List.drop 0 (List.take (fI (ws.getD t32.toNat []) 0).toNat ps)) (↑(List.drop 0 (List.take (fI (ws.getD t32.toNat []) 0).toNat ps)).length : Int) m18_0 m18_1 t8 0) (cond (inb (fI (ws.getD t32.toNat []) 0) ps.length) (cond (g71 m18_0 m18_1 (fS (ps.getD (fI (ws.getD t32.toNat []) 0).toNat []) 0) (fI (ps.getD (fI (ws.getD t32.toNat []) 0).toNat []) 1) (fI (ps.getD (fI (ws.getD t32.toNat []) 0).toNat []) 2) (fI (ps.getD (fI (ws.getD t32.toNat []) 0).toNat []) 3) (fI (ps.getD (fI (ws.getD t32.toNat []) 0).toNat []) 4)) (.go ⟨v42aa_0_t8 ra rb rc ps t4 t5 t6 (fI (ws.getD t32.toNat []) 0) ws t31 t32 (List.drop 0 (List.take (fI (ws.getD t32.toNat []) 0).toNat ps)) (↑(List.drop 0 (List.take (fI (ws.getD t32.toNat []) 0).toNat ps)).length : Int) m18_0 m18_1 t8 0, IntKind.i64.wrap (t32 + 1), w71_0 m18_0 m18_1 (fS (ps.getD (fI (ws.getD t32.toNat []) 0).toNat []) 0) (fI (ps.getD (fI (ws.getD t32.toNat []) 0).toNat []) 1) (fI (ps.getD (fI (ws.getD t32.toNat []) 0).toNat []) 2) (fI (ps.getD (fI (ws.getD t32.toNat []) 0).toNat []) 3) (fI (ps.getD (fI (ws.getD t32.toNat []) 0).toNat []) 4), w71_1 m18_0 m18_1 (fS (ps.getD (fI (ws.getD t32.toNat []) 0).toNat []) 0) (fI (ps.getD (fI (ws.getD t32.toNat []) 0).toNat []) 1) (fI (ps.getD (fI (ws.getD t32.toNat []) 0).toNat []) 2) (fI (ps.getD (fI (ws.getD t32.toNat []) 0).toNat []) 3) (fI (ps.getD (fI (ws.getD t32.toNat []) 0).toNat []) 4)⟩) (.bad)) (.bad)) (.bad)) (.bad)) (.bad)) (.out (.x0 t8 t32 m18_0 m18_1))
noncomputable def o42a_0 (ra : Int) (rb : Int) (rc : Int) (ps : List (List AV)) (t4 : Int) (t5 : Int) (t6 : List (List AV)) (ws : List (List AV)) (t31 : Int) (t8 : Int) (t32 : Int) (m18_0 : Int) (m18_1 : Int) : St :=
  { t := [(2, .rp [.int .i64, .int .i64, .int .i64, .sl 31] [.i .i64 ra, .i .i64 rb, .i .i64 rc, .rs 31 ps] 0), (4, .i .i64 t4), (5, .i .i64 t5), (6, .rs 91 t6), (8, .i .i64 t8), (9, .p 18 0 0), (30, .rs 3 ws), (31, .i .i64 t31), (32, .i .i64 t32)], m := [(0, .dead), (1, .dead), (2, .dead), (3, .dead), (4, .dead), (5, .dead), (6, .dead), (7, .dead), (8, .dead), (9, .dead), (10, .dead), (11, .dead), (12, .dead), (13, .dead), (14, .dead), (15, .dead), (16, .dead), (17, .dead), (18, .row 78 [[.i .i64 m18_0, .i .i64 m18_1]])], nx := 19, nt := 70 }
noncomputable def ou42a (ra : Int) (rb : Int) (rc : Int) (ps : List (List AV)) (t4 : Int) (t5 : Int) (t6 : List (List AV)) (ws : List (List AV)) (t31 : Int) : T42a → Ex × St
  | .x0 t8 t32 m18_0 m18_1 => (.ext 0, o42a_0 ra rb rc ps t4 t5 t6 ws t31 t8 t32 m18_0 m18_1)
noncomputable def r42a (ra : Int) (rb : Int) (rc : Int) (ps : List (List AV)) (t4 : Int) (t5 : Int) (t6 : List (List AV)) (ws : List (List AV)) (t31 : Int) (t8 : Int) (t32 : Int) (m18_0 : Int) (m18_1 : Int) : Option T42a := run (fun x => stp42a ra rb rc ps t4 t5 t6 ws t31 x.t8 x.t32 x.m18_0 x.m18_1) (⟨t8, t32, m18_0, m18_1⟩ : S42a)
noncomputable def i42a_0 (ra : Int) (rb : Int) (rc : Int) (ps : List (List AV)) (t4 : Int) (t5 : Int) (t6 : List (List AV)) (ws : List (List AV)) (t31 : Int) (t8 : Int) (t32 : Int) (m18_0 : Int) (m18_1 : Int) : Bool := match r42a ra rb rc ps t4 t5 t6 ws t31 t8 t32 m18_0 m18_1 with
  | some (.x0 _ _ _ _) => true
  | _ => false
noncomputable def v42a_0_t8 (ra : Int) (rb : Int) (rc : Int) (ps : List (List AV)) (t4 : Int) (t5 : Int) (t6 : List (List AV)) (ws : List (List AV)) (t31 : Int) (t8 : Int) (t32 : Int) (m18_0 : Int) (m18_1 : Int) : Int := match r42a ra rb rc ps t4 t5 t6 ws t31 t8 t32 m18_0 m18_1 with
  | some (.x0 t8 _ _ _) => t8
  | _ => default
noncomputable def v42a_0_t32 (ra : Int) (rb : Int) (rc : Int) (ps : List (List AV)) (t4 : Int) (t5 : Int) (t6 : List (List AV)) (ws : List (List AV)) (t31 : Int) (t8 : Int) (t32 : Int) (m18_0 : Int) (m18_1 : Int) : Int := match r42a ra rb rc ps t4 t5 t6 ws t31 t8 t32 m18_0 m18_1 with
  | some (.x0 _ t32 _ _) => t32
  | _ => default
noncomputable def v42a_0_m18_0 (ra : Int) (rb : Int) (rc : Int) (ps : List (List AV)) (t4 : Int) (t5 : Int) (t6 : List (List AV)) (ws : List (List AV)) (t31 : Int) (t8 : Int) (t32 : Int) (m18_0 : Int) (m18_1 : Int) : Int := match r42a ra rb rc ps t4 t5 t6 ws t31 t8 t32 m18_0 m18_1 with
  | some (.x0 _ _ m18_0 _) => m18_0
  | _ => default
noncomputable def v42a_0_m18_1 (ra : Int) (rb : Int) (rc : Int) (ps : List (List AV)) (t4 : Int) (t5 : Int) (t6 : List (List AV)) (ws : List (List AV)) (t31 : Int) (t8 : Int) (t32 : Int) (m18_0 : Int) (m18_1 : Int) : Int := match r42a ra rb rc ps t4 t5 t6 ws t31 t8 t32 m18_0 m18_1 with
  | some (.x0 _ _ _ m18_1) => m18_1
  | _ => default
noncomputable def l42a (st : St) : Option (List (Bool × Ex × St)) := match normW Try.prog [(2, none), (4, none), (5, none), (6, none), (8, none), (9, none), (30, none), (31, none), (32, none)] 19 st with
  | some ([.rp [.int .i64, .int .i64, .int .i64, .sl 31] [.i .i64 ra, .i .i64 rb, .i .i64 rc, .rs 31 ps] 0, .i .i64 t4, .i .i64 t5, .rs 91 t6, .i .i64 t8, .p 18 0 0, .rs 3 ws, .i .i64 t31, .i .i64 t32], [(0, .dead), (1, .dead), (2, .dead), (3, .dead), (4, .dead), (5, .dead), (6, .dead), (7, .dead), (8, .dead), (9, .dead), (10, .dead), (11, .dead), (12, .dead), (13, .dead), (14, .dead), (15, .dead), (16, .dead), (17, .dead), (18, .row 78 [[.i .i64 m18_0, .i .i64 m18_1]])], 19, 70) => some [(i42a_0 ra rb rc ps t4 t5 t6 ws t31 t8 t32 m18_0 m18_1, .ext 0, o42a_0 ra rb rc ps t4 t5 t6 ws t31 (v42a_0_t8 ra rb rc ps t4 t5 t6 ws t31 t8 t32 m18_0 m18_1) (v42a_0_t32 ra rb rc ps t4 t5 t6 ws t31 t8 t32 m18_0 m18_1) (v42a_0_m18_0 ra rb rc ps t4 t5 t6 ws t31 t8 t32 m18_0 m18_1) (v42a_0_m18_1 ra rb rc ps t4 t5 t6 ws t31 t8 t32 m18_0 m18_1))]
  | _ => none
noncomputable def L42 : LSpec := fun p st => match p with
  | [false, true, false, true, false, false, true, true, false, false, true, false, true, true, true, true, true] => l42aa st
  | [false, true, false, true, true, true, true, true] => l42a st
  | _ => none
theorem is42aa_0 (ra : Int) (rb : Int) (rc : Int) (ps : List (List AV)) (t4 : Int) (t5 : Int) (t6 : List (List AV)) (t11 : Int) (ws : List (List AV)) (t31 : Int) (t32 : Int) (t39 : List (List AV)) (t40 : Int) (m18_0 : Int) (m18_1 : Int) (t8 : Int) (t41 : Int) (h : i42aa_0 ra rb rc ps t4 t5 t6 t11 ws t31 t32 t39 t40 m18_0 m18_1 t8 t41 = true) : r42aa ra rb rc ps t4 t5 t6 t11 ws t31 t32 t39 t40 m18_0 m18_1 t8 t41 = some (.x0 (v42aa_0_t8 ra rb rc ps t4 t5 t6 t11 ws t31 t32 t39 t40 m18_0 m18_1 t8 t41) (v42aa_0_t41 ra rb rc ps t4 t5 t6 t11 ws t31 t32 t39 t40 m18_0 m18_1 t8 t41)) := by
  unfold i42aa_0 at h
  unfold v42aa_0_t8 v42aa_0_t41
  generalize r42aa ra rb rc ps t4 t5 t6 t11 ws t31 t32 t39 t40 m18_0 m18_1 t8 t41 = r at h ⊢
  rcases r with _ | y
  · cases h
  · cases y <;> first | rfl | cases h
theorem round42aa (ra : Int) (rb : Int) (rc : Int) (ps : List (List AV)) (t4 : Int) (t5 : Int) (t6 : List (List AV)) (t8 : Int) (t11 : Int) (ws : List (List AV)) (t31 : Int) (t32 : Int) (t39 : List (List AV)) (t40 : Int) (t41 : Int) (m18_0 : Int) (m18_1 : Int) : round Try.prog Sh (ro 42) L42 lp42aa [false, true, false, true, false, false, true, true, false, false, true, false, true, true, true, true, true] [(2, none), (4, none), (5, none), (6, none), (8, none), (9, none), (11, none), (30, none), (31, none), (32, none), (39, none), (40, none), (41, none)] 19 (s42aa ra rb rc ps t4 t5 t6 t8 t11 ws t31 t32 t39 t40 t41 m18_0 m18_1) =
    cond (decide (t41 < t40)) (cond (inb t41 t39.length) (cond (g71 m18_0 m18_1 (fS (t39.getD t41.toNat []) 0) (fI (t39.getD t41.toNat []) 1) (fI (t39.getD t41.toNat []) 2) (fI (t39.getD t41.toNat []) 3) (fI (t39.getD t41.toNat []) 4)) (cond (w71_2 m18_0 m18_1 (fS (t39.getD t41.toNat []) 0) (fI (t39.getD t41.toNat []) 1) (fI (t39.getD t41.toNat []) 2) (fI (t39.getD t41.toNat []) 3) (fI (t39.getD t41.toNat []) 4)) (cond (g51 t6 (w71_0 m18_0 m18_1 (fS (t39.getD t41.toNat []) 0) (fI (t39.getD t41.toNat []) 1) (fI (t39.getD t41.toNat []) 2) (fI (t39.getD t41.toNat []) 3) (fI (t39.getD t41.toNat []) 4)) (w71_1 m18_0 m18_1 (fS (t39.getD t41.toNat []) 0) (fI (t39.getD t41.toNat []) 1) (fI (t39.getD t41.toNat []) 2) (fI (t39.getD t41.toNat []) 3) (fI (t39.getD t41.toNat []) 4))) (some (.nrm, s42aa ra rb rc ps t4 t5 t6 (IntKind.i64.wrap (t8 + w51_0 t6 (w71_0 m18_0 m18_1 (fS (t39.getD t41.toNat []) 0) (fI (t39.getD t41.toNat []) 1) (fI (t39.getD t41.toNat []) 2) (fI (t39.getD t41.toNat []) 3) (fI (t39.getD t41.toNat []) 4)) (w71_1 m18_0 m18_1 (fS (t39.getD t41.toNat []) 0) (fI (t39.getD t41.toNat []) 1) (fI (t39.getD t41.toNat []) 2) (fI (t39.getD t41.toNat []) 3) (fI (t39.getD t41.toNat []) 4)))) t11 ws t31 t32 t39 t40 (IntKind.i64.wrap (t41 + 1)) m18_0 m18_1)) (none)) (some (.nrm, s42aa ra rb rc ps t4 t5 t6 t8 t11 ws t31 t32 t39 t40 (IntKind.i64.wrap (t41 + 1)) m18_0 m18_1))) (none)) (none)) (some (.ext 2, o42aa_0 ra rb rc ps t4 t5 t6 t11 ws t31 t32 t39 t40 m18_0 m18_1 t8 t41)) := by kernel_rfl
theorem rnd42aa (ra : Int) (rb : Int) (rc : Int) (ps : List (List AV)) (t4 : Int) (t5 : Int) (t6 : List (List AV)) (t11 : Int) (ws : List (List AV)) (t31 : Int) (t32 : Int) (t39 : List (List AV)) (t40 : Int) (m18_0 : Int) (m18_1 : Int) (x : S42aa) : round Try.prog Sh (ro 42) L42 lp42aa [false, true, false, true, false, false, true, true, false, false, true, false, true, true, true, true, true] [(2, none), (4, none), (5, none), (6, none), (8, none), (9, none), (11, none), (30, none), (31, none), (32, none), (39, none), (40, none), (41, none)] 19 ((fun x => s42aa ra rb rc ps t4 t5 t6 x.t8 t11 ws t31 t32 t39 t40 x.t41 m18_0 m18_1) x) = toR (fun x => s42aa ra rb rc ps t4 t5 t6 x.t8 t11 ws t31 t32 t39 t40 x.t41 m18_0 m18_1) (ou42aa ra rb rc ps t4 t5 t6 t11 ws t31 t32 t39 t40 m18_0 m18_1) (stp42aa ra rb rc ps t4 t5 t6 t11 ws t31 t32 t39 t40 m18_0 m18_1 x.t8 x.t41) := by
  refine (round42aa _ _ _ _ _ _ _ _ _ _ _ _ _ _ _ _ _ ).trans ?_
  unfold stp42aa
  simp only [toR_cond]
  rfl
theorem lok42aa {st : St} {outs : List (Bool × Ex × St)} {e : Ex} {s : St} (hl : l42aa st = some outs) (hch : Chosen outs e s) :
    ∃ keep nb, 0 ≤ nb ∧ LB Try.prog Sh (ro 42) L42 lp42aa [false, true, false, true, false, false, true, true, false, false, true, false, true, true, true, true, true] keep nb st e s := by
  unfold l42aa at hl
  split at hl
  · rename_i ra rb rc ps t4 t5 t6 t8 t11 ws t31 t32 t39 t40 t41 m18_0 m18_1 hno
    cases hl
    have hno := normW_norm hno
    refine ⟨_, _, ?_, .enter hno ?_⟩
    · decide
    have main := fun y h => LB_run (x := (⟨t8, t41⟩ : S42aa)) (y := y) (nb := 19) (fun y => by cases y <;> simp [ou42aa]) (rnd42aa ra rb rc ps t4 t5 t6 t11 ws t31 t32 t39 t40 m18_0 m18_1) h
    obtain ⟨x, hx, hg, rfl, rfl⟩ := chosen_any hch
    simp only [List.mem_cons, List.not_mem_nil, or_false] at hx
    subst hx
    exact main _ (is42aa_0 ra rb rc ps t4 t5 t6 t11 ws t31 t32 t39 t40 m18_0 m18_1 t8 t41 hg)
  · cases hl
theorem is42a_0 (ra : Int) (rb : Int) (rc : Int) (ps : List (List AV)) (t4 : Int) (t5 : Int) (t6 : List (List AV)) (ws : List (List AV)) (t31 : Int) (t8 : Int) (t32 : Int) (m18_0 : Int) (m18_1 : Int) (h : i42a_0 ra rb rc ps t4 t5 t6 ws t31 t8 t32 m18_0 m18_1 = true) : r42a ra rb rc ps t4 t5 t6 ws t31 t8 t32 m18_0 m18_1 = some (.x0 (v42a_0_t8 ra rb rc ps t4 t5 t6 ws t31 t8 t32 m18_0 m18_1) (v42a_0_t32 ra rb rc ps t4 t5 t6 ws t31 t8 t32 m18_0 m18_1) (v42a_0_m18_0 ra rb rc ps t4 t5 t6 ws t31 t8 t32 m18_0 m18_1) (v42a_0_m18_1 ra rb rc ps t4 t5 t6 ws t31 t8 t32 m18_0 m18_1)) := by
  unfold i42a_0 at h
  unfold v42a_0_t8 v42a_0_t32 v42a_0_m18_0 v42a_0_m18_1
  generalize r42a ra rb rc ps t4 t5 t6 ws t31 t8 t32 m18_0 m18_1 = r at h ⊢
  rcases r with _ | y
  · cases h
  · cases y <;> first | rfl | cases h
theorem round42a (ra : Int) (rb : Int) (rc : Int) (ps : List (List AV)) (t4 : Int) (t5 : Int) (t6 : List (List AV)) (t8 : Int) (ws : List (List AV)) (t31 : Int) (t32 : Int) (m18_0 : Int) (m18_1 : Int) : round Try.prog Sh (ro 42) L42 lp42a [false, true, false, true, true, true, true, true] [(2, none), (4, none), (5, none), (6, none), (8, none), (9, none), (30, none), (31, none), (32, none)] 19 (s42a ra rb rc ps t4 t5 t6 t8 ws t31 t32 m18_0 m18_1) =
    cond (decide (t32 < t31)) (cond (inb t32 ws.length) (cond (decide (0 ≤ fI (ws.getD t32.toNat []) 0) && decide (fI (ws.getD t32.toNat []) 0 ≤ (↑ps.length : Int))) (cond (i42aa_0 ra rb rc ps t4 t5 t6 (fI (ws.getD t32.toNat []) 0) ws t31 t32 (List.drop 0 (List.take (fI (ws.getD t32.toNat []) 0).toNat ps)) (↑(List.drop 0 (List.take (fI (ws.getD t32.toNat []) 0).toNat ps)).length : Int) m18_0 m18_1 t8 0) (cond (inb (fI (ws.getD t32.toNat []) 0) ps.length) (cond (g71 m18_0 m18_1 (fS (ps.getD (fI (ws.getD t32.toNat []) 0).toNat []) 0) (fI (ps.getD (fI (ws.getD t32.toNat []) 0).toNat []) 1) (fI (ps.getD (fI (ws.getD t32.toNat []) 0).toNat []) 2) (fI (ps.getD (fI (ws.getD t32.toNat []) 0).toNat []) 3) (fI (ps.getD (fI (ws.getD t32.toNat []) 0).toNat []) 4)) (some (.nrm, s42a ra rb rc ps t4 t5 t6 (v42aa_0_t8 ra rb rc ps t4 t5 t6 (fI (ws.getD t32.toNat []) 0) ws t31 t32 (List.drop 0 (List.take (fI (ws.getD t32.toNat []) 0).toNat ps)) (↑(List.drop 0 (List.take (fI (ws.getD t32.toNat []) 0).toNat ps)).length : Int) m18_0 m18_1 t8 0) ws t31 (IntKind.i64.wrap (t32 + 1)) (w71_0 m18_0 m18_1 (fS (ps.getD (fI (ws.getD t32.toNat []) 0).toNat []) 0) (fI (ps.getD (fI (ws.getD t32.toNat []) 0).toNat []) 1) (fI (ps.getD (fI (ws.getD t32.toNat []) 0).toNat []) 2) (fI (ps.getD (fI (ws.getD t32.toNat []) 0).toNat []) 3) (fI (ps.getD (fI (ws.getD t32.toNat []) 0).toNat []) 4)) (w71_1 m18_0 m18_1 (fS (ps.getD (fI (ws.getD t32.toNat []) 0).toNat []) 0) (fI (ps.getD (fI (ws.getD t32.toNat []) 0).toNat []) 1) (fI (ps.getD (fI (ws.getD t32.toNat []) 0).toNat []) 2) (fI (ps.getD (fI (ws.getD t32.toNat []) 0).toNat []) 3) (fI (ps.getD (fI (ws.getD t32.toNat []) 0).toNat []) 4)))) (none)) (none)) (none)) (none)) (none)) (some (.ext 0, o42a_0 ra rb rc ps t4 t5 t6 ws t31 t8 t32 m18_0 m18_1)) := by kernel_rfl
theorem rnd42a (ra : Int) (rb : Int) (rc : Int) (ps : List (List AV)) (t4 : Int) (t5 : Int) (t6 : List (List AV)) (ws : List (List AV)) (t31 : Int) (x : S42a) : round Try.prog Sh (ro 42) L42 lp42a [false, true, false, true, true, true, true, true] [(2, none), (4, none), (5, none), (6, none), (8, none), (9, none), (30, none), (31, none), (32, none)] 19 ((fun x => s42a ra rb rc ps t4 t5 t6 x.t8 ws t31 x.t32 x.m18_0 x.m18_1) x) = toR (fun x => s42a ra rb rc ps t4 t5 t6 x.t8 ws t31 x.t32 x.m18_0 x.m18_1) (ou42a ra rb rc ps t4 t5 t6 ws t31) (stp42a ra rb rc ps t4 t5 t6 ws t31 x.t8 x.t32 x.m18_0 x.m18_1) := by
  refine (round42a _ _ _ _ _ _ _ _ _ _ _ _ _ ).trans ?_
  unfold stp42a
  simp only [toR_cond]
  rfl
theorem lok42a {st : St} {outs : List (Bool × Ex × St)} {e : Ex} {s : St} (hl : l42a st = some outs) (hch : Chosen outs e s) :
    ∃ keep nb, 0 ≤ nb ∧ LB Try.prog Sh (ro 42) L42 lp42a [false, true, false, true, true, true, true, true] keep nb st e s := by
  unfold l42a at hl
  split at hl
  · rename_i ra rb rc ps t4 t5 t6 t8 ws t31 t32 m18_0 m18_1 hno
    cases hl
    have hno := normW_norm hno
    refine ⟨_, _, ?_, .enter hno ?_⟩
    · decide
    have main := fun y h => LB_run (x := (⟨t8, t32, m18_0, m18_1⟩ : S42a)) (y := y) (nb := 19) (fun y => by cases y <;> simp [ou42a]) (rnd42a ra rb rc ps t4 t5 t6 ws t31) h
    obtain ⟨x, hx, hg, rfl, rfl⟩ := chosen_any hch
    simp only [List.mem_cons, List.not_mem_nil, or_false] at hx
    subst hx
    exact main _ (is42a_0 ra rb rc ps t4 t5 t6 ws t31 t8 t32 m18_0 m18_1 hg)
  · cases hl
theorem L42_ok (q : Pl) (c : Code) (hq : locate c42 q.reverse = some (.loop c)) (st : St) (outs : List (Bool × Ex × St)) (e : Ex) (s : St) (hl : L42 q st = some outs) (hch : Chosen outs e s) :
    ∃ keep nb, 0 ≤ nb ∧ LB Try.prog Sh (ro 42) L42 c q keep nb st e s := by
  unfold L42 at hl
  split at hl
  · have : locate c42 ([false, true, false, true, false, false, true, true, false, false, true, false, true, true, true, true, true] : Pl).reverse = some (.loop lp42aa) := by kernel_rfl
    rw [this] at hq
    cases hq
    exact lok42aa hl hch
  · have : locate c42 ([false, true, false, true, true, true, true, true] : Pl).reverse = some (.loop lp42a) := by kernel_rfl
    rw [this] at hq
    cases hq
    exact lok42a hl hch
  · cases hl
theorem lok42 : LOK Try.prog Sh (ro 42) L42 0 false c42 [] :=
  lok_lo L42_ok c42 [] false (locate_nil _) (by kernel_rfl)
noncomputable def t42 (ra rb rc : Int) (ps : List (List AV)) (ws : List (List AV)) : Tr ((Int) × (Int)) :=
  .cn (g50 ra rb rc ps) (.cn (w50_1 ra rb rc ps != 0) (.lf (0, w50_1 ra rb rc ps)) (.cn (g64 ra rb rc ps ws) (.cn (!w64_0 ra rb rc ps ws) (.lf (0, 8)) (.cn (i42a_0 ra rb rc ps 0 0 (w50_0 ra rb rc ps) ws (↑ws.length : Int) 0 0 (w52_0 ra rb rc ps) (w52_1 ra rb rc ps)) (.lf (v42a_0_t8 ra rb rc ps 0 0 (w50_0 ra rb rc ps) ws (↑ws.length : Int) 0 0 (w52_0 ra rb rc ps) (w52_1 ra rb rc ps), 0)) (.nn))) (.nn))) (.nn)
noncomputable def g42 (ra rb rc : Int) (ps : List (List AV)) (ws : List (List AV)) : Bool := (t42 ra rb rc ps ws).g
noncomputable def w42_0 (ra rb rc : Int) (ps : List (List AV)) (ws : List (List AV)) : Int := (t42 ra rb rc ps ws).val.1
noncomputable def w42_1 (ra rb rc : Int) (ps : List (List AV)) (ws : List (List AV)) : Int := (t42 ra rb rc ps ws).val.2
theorem eq42 (ra rb rc : Int) (ps : List (List AV)) (ws : List (List AV)) : evF Try.prog Sh (ro 42) L42 Try.f42 [.agg [.i .i64 ra, .i .i64 rb, .i .i64 rc, .rs 31 ps], .rs 3 ws] = (t42 ra rb rc ps ws).opt (fun (x : (Int) × (Int)) => (.tup [.i .i64 x.1, .i .i64 x.2] : AV)) := by kernel_rfl
theorem con42 (ra rb rc : Int) (ps : List (List AV)) (ws : List (List AV)) (h : g42 ra rb rc ps ws = true) : Con Try.prog 42 [.agg [.i .i64 ra, .i .i64 rb, .i .i64 rc, .rs 31 ps], .rs 3 ws] [] (.tup [.i .i64 (w42_0 ra rb rc ps ws), .i .i64 (w42_1 ra rb rc ps ws)]) [] :=
  con_of Sh_ok mixed Try.func42 (c := c42) rfl (names 42 _ Try.func42) lok42 ((eq42 ra rb rc ps ws).trans (Tr.sound _ _ h))
noncomputable def e42 (args : List AV) (rows : List Blk) : Option (Bool × AV × List Blk) := match args, rows with
  | [.agg [.i .i64 ra, .i .i64 rb, .i .i64 rc, .rs 31 ps], .rs 3 ws], [] => some (g42 ra rb rc ps ws, .tup [.i .i64 (w42_0 ra rb rc ps ws), .i .i64 (w42_1 ra rb rc ps ws)], [])
  | _, _ => none
theorem e42_ok (args : List AV) (rows : List Blk) (pre : Bool) (v : AV) (rows' : List Blk) (h : e42 args rows = some (pre, v, rows')) (hp : pre = true) : Con Try.prog 42 args rows v rows' := by
  unfold e42 at h
  split at h
  · cases h; exact con42 _ _ _ _ _ hp
  · cases h
-- SPEC 42
end Go.Proofs.Ytgifjphinkbcaaa

set_option maxRecDepth 100000
set_option linter.unusedVariables false
namespace Go.Proofs.Ytgifjphinkbcaaa
open Go Go.Ev

/-! ### ref Rank -/
noncomputable def c43 : Code := match Try.f43.body with | some c => c | _ => .skip
noncomputable def lp43a : Code := loopAt c43 [true, true, true, true, true, false, true, false]
noncomputable def s43a (ws : List (List AV)) (ra : Int) (rb : Int) (rc : Int) (ps : List (List AV)) (t4 : Int) (t5 : Int) (t6 : List (List AV)) (t8 : Int) (t9 : Int) (t10 : Int) (t11 : Int) : St :=
  { t := [(1, .rs 3 ws), (2, .rp [.int .i64, .int .i64, .int .i64, .sl 31] [.i .i64 ra, .i .i64 rb, .i .i64 rc, .rs 31 ps] 0), (4, .i .i64 t4), (5, .i .i64 t5), (6, .rs 91 t6), (8, .i .i64 t8), (9, .i .i64 t9), (10, .i .i64 t10), (11, .i .i64 t11)], m := [], nx := 0, nt := 91 }
noncomputable def lp43aa : Code := loopAt c43 [true, true, true, true, true, false, true, false, false, true, false, false, false, true, false]
noncomputable def s43aa (ws : List (List AV)) (ra : Int) (rb : Int) (rc : Int) (ps : List (List AV)) (t4 : Int) (t5 : Int) (t6 : List (List AV)) (t8 : Int) (t9 : Int) (t10 : Int) (t11 : Int) (t12 : Int) : St :=
  { t := [(1, .rs 3 ws), (2, .rp [.int .i64, .int .i64, .int .i64, .sl 31] [.i .i64 ra, .i .i64 rb, .i .i64 rc, .rs 31 ps] 0), (4, .i .i64 t4), (5, .i .i64 t5), (6, .rs 91 t6), (8, .i .i64 t8), (9, .i .i64 t9), (10, .i .i64 t10), (11, .i .i64 t11), (12, .i .i64 t12)], m := [], nx := 0, nt := 91 }
structure S43aa where
  t8 : Int
  t12 : Int
inductive T43aa where
  | x0 (t8 : Int) (t12 : Int)
noncomputable def stp43aa (ws : List (List AV)) (ra : Int) (rb : Int) (rc : Int) (ps : List (List AV)) (t4 : Int) (t5 : Int) (t6 : List (List AV)) (t9 : Int) (t10 : Int) (t11 : Int) (t8 : Int) (t12 : Int) : Lp S43aa T43aa :=
  cond (inb t11 ws.length) (cond (decide (t12 < fI (ws.getD t11.toNat []) 0)) (cond (inb t12 ps.length) (cond (fI (ps.getD t12.toNat []) 2 == t10) (cond (decide (fI (ps.getD t12.toNat []) 1 ≤ t9)) (cond (inb (IntKind.i64.wrap (t9 - fI (ps.getD t12.toNat []) 1)) t6.length) (cond (inb (fI (ps.getD t12.toNat []) 3) 10) (cond (ctsAt (cts Try.prog 91) (0 + (fI (ps.getD t12.toNat []) 3).toNat * 1) (cts Try.prog 3)) (.go ⟨IntKind.i64.wrap (t8 + toI ((t6.getD (IntKind.i64.wrap (t9 - fI (ps.getD t12.toNat []) 1)).toNat []).getD (0 + (fI (ps.getD t12.toNat []) 3).toNat * 1) AV.u)), IntKind.i64.wrap (t12 + 1)⟩) (.bad)) (.bad)) (.bad)) (.go ⟨t8, IntKind.i64.wrap (t12 + 1)⟩)) (.go ⟨t8, IntKind.i64.wrap (t12 + 1)⟩)) (.bad)) (.out (.x0 t8 t12))) (.bad)
noncomputable def o43aa_0 (ws : List (List AV)) (ra : Int) (rb : Int) (rc : Int) (ps : List (List AV)) (t4 : Int) (t5 : Int) (t6 : List (List AV)) (t9 : Int) (t10 : Int) (t11 : Int) (t8 : Int) (t12 : Int) : St :=
  { t := [(1, .rs 3 ws), (2, .rp [.int .i64, .int .i64, .int .i64, .sl 31] [.i .i64 ra, .i .i64 rb, .i .i64 rc, .rs 31 ps] 0), (4, .i .i64 t4), (5, .i .i64 t5), (6, .rs 91 t6), (8, .i .i64 t8), (9, .i .i64 t9), (10, .i .i64 t10), (11, .i .i64 t11), (12, .i .i64 t12)], m := [], nx := 0, nt := 91 }
noncomputable def ou43aa (ws : List (List AV)) (ra : Int) (rb : Int) (rc : Int) (ps : List (List AV)) (t4 : Int) (t5 : Int) (t6 : List (List AV)) (t9 : Int) (t10 : Int) (t11 : Int) : T43aa → Ex × St
  | .x0 t8 t12 => (.ext 2, o43aa_0 ws ra rb rc ps t4 t5 t6 t9 t10 t11 t8 t12)
noncomputable def r43aa (ws : List (List AV)) (ra : Int) (rb : Int) (rc : Int) (ps : List (List AV)) (t4 : Int) (t5 : Int) (t6 : List (List AV)) (t9 : Int) (t10 : Int) (t11 : Int) (t8 : Int) (t12 : Int) : Option T43aa := run (fun x => stp43aa ws ra rb rc ps t4 t5 t6 t9 t10 t11 x.t8 x.t12) (⟨t8, t12⟩ : S43aa)
noncomputable def i43aa_0 (ws : List (List AV)) (ra : Int) (rb : Int) (rc : Int) (ps : List (List AV)) (t4 : Int) (t5 : Int) (t6 : List (List AV)) (t9 : Int) (t10 : Int) (t11 : Int) (t8 : Int) (t12 : Int) : Bool := match r43aa ws ra rb rc ps t4 t5 t6 t9 t10 t11 t8 t12 with
  | some (.x0 _ _) => true
  | _ => false
noncomputable def v43aa_0_t8 (ws : List (List AV)) (ra : Int) (rb : Int) (rc : Int) (ps : List (List AV)) (t4 : Int) (t5 : Int) (t6 : List (List AV)) (t9 : Int) (t10 : Int) (t11 : Int) (t8 : Int) (t12 : Int) : Int := match r43aa ws ra rb rc ps t4 t5 t6 t9 t10 t11 t8 t12 with
  | some (.x0 t8 _) => t8
  | _ => default
noncomputable def v43aa_0_t12 (ws : List (List AV)) (ra : Int) (rb : Int) (rc : Int) (ps : List (List AV)) (t4 : Int) (t5 : Int) (t6 : List (List AV)) (t9 : Int) (t10 : Int) (t11 : Int) (t8 : Int) (t12 : Int) : Int := match r43aa ws ra rb rc ps t4 t5 t6 t9 t10 t11 t8 t12 with
  | some (.x0 _ t12) => t12
  | _ => default
noncomputable def l43aa (st : St) : Option (List (Bool × Ex × St)) := match normW Try.prog [(1, none), (2, none), (4, none), (5, none), (6, none), (8, none), (9, none), (10, none), (11, none), (12, none)] 0 st with
  | some ([.rs 3 ws, .rp [.int .i64, .int .i64, .int .i64, .sl 31] [.i .i64 ra, .i .i64 rb, .i .i64 rc, .rs 31 ps] 0, .i .i64 t4, .i .i64 t5, .rs 91 t6, .i .i64 t8, .i .i64 t9, .i .i64 t10, .i .i64 t11, .i .i64 t12], [], 0, 91) => some [(i43aa_0 ws ra rb rc ps t4 t5 t6 t9 t10 t11 t8 t12, .ext 2, o43aa_0 ws ra rb rc ps t4 t5 t6 t9 t10 t11 (v43aa_0_t8 ws ra rb rc ps t4 t5 t6 t9 t10 t11 t8 t12) (v43aa_0_t12 ws ra rb rc ps t4 t5 t6 t9 t10 t11 t8 t12))]
  | _ => none
structure S43a where
  t8 : Int
  t9 : Int
  t10 : Int
  t11 : Int
inductive T43a where
  | x0 (t8 : Int) (t9 : Int) (t10 : Int) (t11 : Int)
noncomputable def stp43a (ws : List (List AV)) (ra : Int) (rb : Int) (rc : Int) (ps : List (List AV)) (t4 : Int) (t5 : Int) (t6 : List (List AV)) (t8 : Int) (t9 : Int) (t10 : Int) (t11 : Int) : Lp S43a T43a :=
  cond (decide (t11 < (↑ws.length : Int))) (cond (i43aa_0 ws ra rb rc ps t4 t5 t6 t9 t10 t11 t8 0) (cond (inb t11 ws.length) (cond (inb (fI (ws.getD t11.toNat []) 0) ps.length) (.go ⟨v43aa_0_t8 ws ra rb rc ps t4 t5 t6 t9 t10 t11 t8 0, IntKind.i64.wrap (t9 - fI (ps.getD (fI (ws.getD t11.toNat []) 0).toNat []) 1), fI (ps.getD (fI (ws.getD t11.toNat []) 0).toNat []) 3, IntKind.i64.wrap (t11 + 1)⟩) (.bad)) (.bad)) (.bad)) (.out (.x0 t8 t9 t10 t11))
noncomputable def o43a_0 (ws : List (List AV)) (ra : Int) (rb : Int) (rc : Int) (ps : List (List AV)) (t4 : Int) (t5 : Int) (t6 : List (List AV)) (t8 : Int) (t9 : Int) (t10 : Int) (t11 : Int) : St :=
  { t := [(1, .rs 3 ws), (2, .rp [.int .i64, .int .i64, .int .i64, .sl 31] [.i .i64 ra, .i .i64 rb, .i .i64 rc, .rs 31 ps] 0), (4, .i .i64 t4), (5, .i .i64 t5), (6, .rs 91 t6), (8, .i .i64 t8), (9, .i .i64 t9), (10, .i .i64 t10), (11, .i .i64 t11)], m := [], nx := 0, nt := 91 }
noncomputable def ou43a (ws : List (List AV)) (ra : Int) (rb : Int) (rc : Int) (ps : List (List AV)) (t4 : Int) (t5 : Int) (t6 : List (List AV)) : T43a → Ex × St
  | .x0 t8 t9 t10 t11 => (.ext 0, o43a_0 ws ra rb rc ps t4 t5 t6 t8 t9 t10 t11)
noncomputable def r43a (ws : List (List AV)) (ra : Int) (rb : Int) (rc : Int) (ps : List (List AV)) (t4 : Int) (t5 : Int) (t6 : List (List AV)) (t8 : Int) (t9 : Int) (t10 : Int) (t11 : Int) : Option T43a := run (fun x => stp43a ws ra rb rc ps t4 t5 t6 x.t8 x.t9 x.t10 x.t11) (⟨t8, t9, t10, t11⟩ : S43a)
noncomputable def i43a_0 (ws : List (List AV)) (ra : Int) (rb : Int) (rc : Int) (ps : List (List AV)) (t4 : Int) (t5 : Int) (t6 : List (List AV)) (t8 : Int) (t9 : Int) (t10 : Int) (t11 : Int) : Bool := match r43a ws ra rb rc ps t4 t5 t6 t8 t9 t10 t11 with
  | some (.x0 _ _ _ _) => true
  | _ => false
noncomputable def v43a_0_t8 (ws : List (List AV)) (ra : Int) (rb : Int) (rc : Int) (ps : List (List AV)) (t4 : Int) (t5 : Int) (t6 : List (List AV)) (t8 : Int) (t9 : Int) (t10 : Int) (t11 : Int) : Int := match r43a ws ra rb rc ps t4 t5 t6 t8 t9 t10 t11 with
  | some (.x0 t8 _ _ _) => t8
  | _ => default
noncomputable def v43a_0_t9 (ws : List (List AV)) (ra : Int) (rb : Int) (rc : Int) (ps : List (List AV)) (t4 : Int) (t5 : Int) (t6 : List (List AV)) (t8 : Int) (t9 : Int) (t10 : Int) (t11 : Int) : Int := match r43a ws ra rb rc ps t4 t5 t6 t8 t9 t10 t11 with
  | some (.x0 _ t9 _ _) => t9
  | _ => default
noncomputable def v43a_0_t10 (ws : List (List AV)) (ra : Int) (rb : Int) (rc : Int) (ps : List (List AV)) (t4 : Int) (t5 : Int) (t6 : List (List AV)) (t8 : Int) (t9 : Int) (t10 : Int) (t11 : Int) : Int := match r43a ws ra rb rc ps t4 t5 t6 t8 t9 t10 t11 with
  | some (.x0 _ _ t10 _) => t10
  | _ => default
noncomputable def v43a_0_t11 (ws : List (List AV)) (ra : Int) (rb : Int) (rc : Int) (ps : List (List AV)) (t4 : Int) (t5 : Int) (t6 : List (List AV)) (t8 : Int) (t9 : Int) (t10 : Int) (t11 : Int) : Int := match r43a ws ra rb rc ps t4 t5 t6 t8 t9 t10 t11 with
  | some (.x0 _ _ _ t11) => t11
  | _ => default
noncomputable def l43a (st : St) : Option (List (Bool × Ex × St)) := match normW Try.prog [(1, none), (2, none), (4, none), (5, none), (6, none), (8, none), (9, none), (10, none), (11, none)] 0 st with
  | some ([.rs 3 ws, .rp [.int .i64, .int .i64, .int .i64, .sl 31] [.i .i64 ra, .i .i64 rb, .i .i64 rc, .rs 31 ps] 0, .i .i64 t4, .i .i64 t5, .rs 91 t6, .i .i64 t8, .i .i64 t9, .i .i64 t10, .i .i64 t11], [], 0, 91) => some [(i43a_0 ws ra rb rc ps t4 t5 t6 t8 t9 t10 t11, .ext 0, o43a_0 ws ra rb rc ps t4 t5 t6 (v43a_0_t8 ws ra rb rc ps t4 t5 t6 t8 t9 t10 t11) (v43a_0_t9 ws ra rb rc ps t4 t5 t6 t8 t9 t10 t11) (v43a_0_t10 ws ra rb rc ps t4 t5 t6 t8 t9 t10 t11) (v43a_0_t11 ws ra rb rc ps t4 t5 t6 t8 t9 t10 t11))]
  | _ => none
noncomputable def L43 : LSpec := fun p st => match p with
  | [false, true, false, false, false, true, false, false, true, false, true, true, true, true, true] => l43aa st
  | [false, true, false, true, true, true, true, true] => l43a st
  | _ => none
theorem is43aa_0 (ws : List (List AV)) (ra : Int) (rb : Int) (rc : Int) (ps : List (List AV)) (t4 : Int) (t5 : Int) (t6 : List (List AV)) (t9 : Int) (t10 : Int) (t11 : Int) (t8 : Int) (t12 : Int) (h : i43aa_0 ws ra rb rc ps t4 t5 t6 t9 t10 t11 t8 t12 = true) : r43aa ws ra rb rc ps t4 t5 t6 t9 t10 t11 t8 t12 = some (.x0 (v43aa_0_t8 ws ra rb rc ps t4 t5 t6 t9 t10 t11 t8 t12) (v43aa_0_t12 ws ra rb rc ps t4 t5 t6 t9 t10 t11 t8 t12)) := by
  unfold i43aa_0 at h
  unfold v43aa_0_t8 v43aa_0_t12
  generalize r43aa ws ra rb rc ps t4 t5 t6 t9 t10 t11 t8 t12 = r at h ⊢
  rcases r with _ | y
  · cases h
  · cases y <;> first | rfl | cases h
theorem round43aa (ws : List (List AV)) (ra : Int) (rb : Int) (rc : Int) (ps : List (List AV)) (t4 : Int) (t5 : Int) (t6 : List (List AV)) (t8 : Int) (t9 : Int) (t10 : Int) (t11 : Int) (t12 : Int) : round Try.prog Sh (ro 43) L43 lp43aa [false, true, false, false, false, true, false, false, true, false, true, true, true, true, true] [(1, none), (2, none), (4, none), (5, none), (6, none), (8, none), (9, none), (10, none), (11, none), (12, none)] 0 (s43aa ws ra rb rc ps t4 t5 t6 t8 t9 t10 t11 t12) =
    cond (inb t11 ws.length) (cond (decide (t12 < fI (ws.getD t11.toNat []) 0)) (cond (inb t12 ps.length) (cond (fI (ps.getD t12.toNat []) 2 == t10) (cond (decide (fI (ps.getD t12.toNat []) 1 ≤ t9)) (cond (inb (IntKind.i64.wrap (t9 - fI (ps.getD t12.toNat []) 1)) t6.length) (cond (inb (fI (ps.getD t12.toNat []) 3) 10) (cond (ctsAt (cts Try.prog 91) (0 + (fI (ps.getD t12.toNat []) 3).toNat * 1) (cts Try.prog 3)) (some (.nrm, s43aa ws ra rb rc ps t4 t5 t6 (IntKind.i64.wrap (t8 + toI ((t6.getD (IntKind.i64.wrap (t9 - fI (ps.getD t12.toNat []) 1)).toNat []).getD (0 + (fI (ps.getD t12.toNat []) 3).toNat * 1) AV.u))) t9 t10 t11 (IntKind.i64.wrap (t12 + 1)))) (none)) (none)) (none)) (some (.nrm, s43aa ws ra rb rc ps t4 t5 t6 t8 t9 t10 t11 (IntKind.i64.wrap (t12 + 1))))) (some (.nrm, s43aa ws ra rb rc ps t4 t5 t6 t8 t9 t10 t11 (IntKind.i64.wrap (t12 + 1))))) (none)) (some (.ext 2, o43aa_0 ws ra rb rc ps t4 t5 t6 t9 t10 t11 t8 t12))) (none) := by kernel_rfl
theorem rnd43aa (ws : List (List AV)) (ra : Int) (rb : Int) (rc : Int) (ps : List (List AV)) (t4 : Int) (t5 : Int) (t6 : List (List AV)) (t9 : Int) (t10 : Int) (t11 : Int) (x : S43aa) : round Try.prog Sh (ro 43) L43 lp43aa [false, true, false, false, false, true, false, false, true, false, true, true, true, true, true] [(1, none), (2, none), (4, none), (5, none), (6, none), (8, none), (9, none), (10, none), (11, none), (12, none)] 0 ((fun x => s43aa ws ra rb rc ps t4 t5 t6 x.t8 t9 t10 t11 x.t12) x) = toR (fun x => s43aa ws ra rb rc ps t4 t5 t6 x.t8 t9 t10 t11 x.t12) (ou43aa ws ra rb rc ps t4 t5 t6 t9 t10 t11) (stp43aa ws ra rb rc ps t4 t5 t6 t9 t10 t11 x.t8 x.t12) := by
  refine (round43aa _ _ _ _ _ _ _ _ _ _ _ _ _ ).trans ?_
  unfold stp43aa
  simp only [toR_cond]
  rfl
theorem lok43aa {st : St} {outs : List (Bool × Ex × St)} {e : Ex} {s : St} (hl : l43aa st = some outs) (hch : Chosen outs e s) :
    ∃ keep nb, 0 ≤ nb ∧ LB Try.prog Sh (ro 43) L43 lp43aa [false, true, false, false, false, true, false, false, true, false, true, true, true, true, true] keep nb st e s := by
  unfold l43aa at hl
  split at hl
  · rename_i ws ra rb rc ps t4 t5 t6 t8 t9 t10 t11 t12 hno
    cases hl
    have hno := normW_norm hno
    refine ⟨_, _, ?_, .enter hno ?_⟩
    · decide
    have main := fun y h => LB_run (x := (⟨t8, t12⟩ : S43aa)) (y := y) (nb := 0) (fun y => by cases y <;> simp [ou43aa]) (rnd43aa ws ra rb rc ps t4 t5 t6 t9 t10 t11) h
    obtain ⟨x, hx, hg, rfl, rfl⟩ := chosen_any hch
    simp only [List.mem_cons, List.not_mem_nil, or_false] at hx
    subst hx
    exact main _ (is43aa_0 ws ra rb rc ps t4 t5 t6 t9 t10 t11 t8 t12 hg)
  · cases hl
theorem is43a_0 (ws : List (List AV)) (ra : Int) (rb : Int) (rc : Int) (ps : List (List AV)) (t4 : Int) (t5 : Int) (t6 : List (List AV)) (t8 : Int) (t9 : Int) (t10 : Int) (t11 : Int) (h : i43a_0 ws ra rb rc ps t4 t5 t6 t8 t9 t10 t11 = true) : r43a ws ra rb rc ps t4 t5 t6 t8 t9 t10 t11 = some (.x0 (v43a_0_t8 ws ra rb rc ps t4 t5 t6 t8 t9 t10 t11) (v43a_0_t9 ws ra rb rc ps t4 t5 t6 t8 t9 t10 t11) (v43a_0_t10 ws ra rb rc ps t4 t5 t6 t8 t9 t10 t11) (v43a_0_t11 ws ra rb rc ps t4 t5 t6 t8 t9 t10 t11)) := by
  unfold i43a_0 at h
  unfold v43a_0_t8 v43a_0_t9 v43a_0_t10 v43a_0_t11
  generalize r43a ws ra rb rc ps t4 t5 t6 t8 t9 t10 t11 = r at h ⊢
  rcases r with _ | y
  · cases h
  · cases y <;> first | rfl | cases h
theorem round43a (ws : List (List AV)) (ra : Int) (rb : Int) (rc : Int) (ps : List (List AV)) (t4 : Int) (t5 : Int) (t6 : List (List AV)) (t8 : Int) (t9 : Int) (t10 : Int) (t11 : Int) : round Try.prog Sh (ro 43) L43 lp43a [false, true, false, true, true, true, true, true] [(1, none), (2, none), (4, none), (5, none), (6, none), (8, none), (9, none), (10, none), (11, none)] 0 (s43a ws ra rb rc ps t4 t5 t6 t8 t9 t10 t11) =
    cond (decide (t11 < (↑ws.length : Int))) (cond (i43aa_0 ws ra rb rc ps t4 t5 t6 t9 t10 t11 t8 0) (cond (inb t11 ws.length) (cond (inb (fI (ws.getD t11.toNat []) 0) ps.length) (some (.nrm, s43a ws ra rb rc ps t4 t5 t6 (v43aa_0_t8 ws ra rb rc ps t4 t5 t6 t9 t10 t11 t8 0) (IntKind.i64.wrap (t9 - fI (ps.getD (fI (ws.getD t11.toNat []) 0).toNat []) 1)) (fI (ps.getD (fI (ws.getD t11.toNat []) 0).toNat []) 3) (IntKind.i64.wrap (t11 + 1)))) (none)) (none)) (none)) (some (.ext 0, o43a_0 ws ra rb rc ps t4 t5 t6 t8 t9 t10 t11)) := by kernel_rfl
theorem rnd43a (ws : List (List AV)) (ra : Int) (rb : Int) (rc : Int) (ps : List (List AV)) (t4 : Int) (t5 : Int) (t6 : List (List AV)) (x : S43a) : round Try.prog Sh (ro 43) L43 lp43a [false, true, false, true, true, true, true, true] [(1, none), (2, none), (4, none), (5, none), (6, none), (8, none), (9, none), (10, none), (11, none)] 0 ((fun x => s43a ws ra rb rc ps t4 t5 t6 x.t8 x.t9 x.t10 x.t11) x) = toR (fun x => s43a ws ra rb rc ps t4 t5 t6 x.t8 x.t9 x.t10 x.t11) (ou43a ws ra rb rc ps t4 t5 t6) (stp43a ws ra rb rc ps t4 t5 t6 x.t8 x.t9 x.t10 x.t11) := by
  refine (round43a _ _ _ _ _ _ _ _ _ _ _ _ ).trans ?_
  unfold stp43a
  simp only [toR_cond]
  rfl
theorem lok43a {st : St} {outs : List (Bool × Ex × St)} {e : Ex} {s : St} (hl : l43a st = some outs) (hch : Chosen outs e s) :
    ∃ keep nb, 0 ≤ nb ∧ LB Try.prog Sh (ro 43) L43 lp43a [false, true, false, true, true, true, true, true] keep nb st e s := by
  unfold l43a at hl
  split at hl
  · rename_i ws ra rb rc ps t4 t5 t6 t8 t9 t10 t11 hno
    cases hl
    have hno := normW_norm hno
    refine ⟨_, _, ?_, .enter hno ?_⟩
    · decide
    have main := fun y h => LB_run (x := (⟨t8, t9, t10, t11⟩ : S43a)) (y := y) (nb := 0) (fun y => by cases y <;> simp [ou43a]) (rnd43a ws ra rb rc ps t4 t5 t6) h
    obtain ⟨x, hx, hg, rfl, rfl⟩ := chosen_any hch
    simp only [List.mem_cons, List.not_mem_nil, or_false] at hx
    subst hx
    exact main _ (is43a_0 ws ra rb rc ps t4 t5 t6 t8 t9 t10 t11 hg)
  · cases hl
theorem L43_ok (q : Pl) (c : Code) (hq : locate c43 q.reverse = some (.loop c)) (st : St) (outs : List (Bool × Ex × St)) (e : Ex) (s : St) (hl : L43 q st = some outs) (hch : Chosen outs e s) :
    ∃ keep nb, 0 ≤ nb ∧ LB Try.prog Sh (ro 43) L43 c q keep nb st e s := by
  unfold L43 at hl
  split at hl
  · have : locate c43 ([false, true, false, false, false, true, false, false, true, false, true, true, true, true, true] : Pl).reverse = some (.loop lp43aa) := by kernel_rfl
    rw [this] at hq
    cases hq
    exact lok43aa hl hch
  · have : locate c43 ([false, true, false, true, true, true, true, true] : Pl).reverse = some (.loop lp43a) := by kernel_rfl
    rw [this] at hq
    cases hq
    exact lok43a hl hch
  · cases hl
theorem lok43 : LOK Try.prog Sh (ro 43) L43 0 false c43 [] :=
  lok_lo L43_ok c43 [] false (locate_nil _) (by kernel_rfl)
noncomputable def t43 (ra rb rc : Int) (ps : List (List AV)) (ws : List (List AV)) : Tr ((Int) × (Int)) :=
  .cn (g67 ra rb rc ps) (.cn (w67_1 ra rb rc ps == 0) (.cn (g65 ra rb rc ps ws) (.cn (!w65_0 ra rb rc ps ws) (.lf (0, 8)) (.cn (w67_1 ra rb rc ps != 0) (.lf (0, w67_1 ra rb rc ps)) (.cn (i43a_0 ws ra rb rc ps 0 0 (w67_0 ra rb rc ps) 0 ra rb 0) (.lf (v43a_0_t8 ws ra rb rc ps 0 0 (w67_0 ra rb rc ps) 0 ra rb 0, 0)) (.nn)))) (.nn)) (.cn (w67_1 ra rb rc ps != 0) (.lf (0, w67_1 ra rb rc ps)) (.cn (i43a_0 ws ra rb rc ps 0 0 (w67_0 ra rb rc ps) 0 ra rb 0) (.lf (v43a_0_t8 ws ra rb rc ps 0 0 (w67_0 ra rb rc ps) 0 ra rb 0, 0)) (.nn)))) (.nn)
noncomputable def g43 (ra rb rc : Int) (ps : List (List AV)) (ws : List (List AV)) : Bool := (t43 ra rb rc ps ws).g
noncomputable def w43_0 (ra rb rc : Int) (ps : List (List AV)) (ws : List (List AV)) : Int := (t43 ra rb rc ps ws).val.1
noncomputable def w43_1 (ra rb rc : Int) (ps : List (List AV)) (ws : List (List AV)) : Int := (t43 ra rb rc ps ws).val.2
theorem eq43 (ra rb rc : Int) (ps : List (List AV)) (ws : List (List AV)) : evF Try.prog Sh (ro 43) L43 Try.f43 [.agg [.i .i64 ra, .i .i64 rb, .i .i64 rc, .rs 31 ps], .rs 3 ws] = (t43 ra rb rc ps ws).opt (fun (x : (Int) × (Int)) => (.tup [.i .i64 x.1, .i .i64 x.2] : AV)) := by kernel_rfl
theorem con43 (ra rb rc : Int) (ps : List (List AV)) (ws : List (List AV)) (h : g43 ra rb rc ps ws = true) : Con Try.prog 43 [.agg [.i .i64 ra, .i .i64 rb, .i .i64 rc, .rs 31 ps], .rs 3 ws] [] (.tup [.i .i64 (w43_0 ra rb rc ps ws), .i .i64 (w43_1 ra rb rc ps ws)]) [] :=
  con_of Sh_ok mixed Try.func43 (c := c43) rfl (names 43 _ Try.func43) lok43 ((eq43 ra rb rc ps ws).trans (Tr.sound _ _ h))
noncomputable def e43 (args : List AV) (rows : List Blk) : Option (Bool × AV × List Blk) := match args, rows with
  | [.agg [.i .i64 ra, .i .i64 rb, .i .i64 rc, .rs 31 ps], .rs 3 ws], [] => some (g43 ra rb rc ps ws, .tup [.i .i64 (w43_0 ra rb rc ps ws), .i .i64 (w43_1 ra rb rc ps ws)], [])
  | _, _ => none
theorem e43_ok (args : List AV) (rows : List Blk) (pre : Bool) (v : AV) (rows' : List Blk) (h : e43 args rows = some (pre, v, rows')) (hp : pre = true) : Con Try.prog 43 args rows v rows' := by
  unfold e43 at h
  split at h
  · cases h; exact con43 _ _ _ _ _ hp
  · cases h
-- SPEC 43
end Go.Proofs.Ytgifjphinkbcaaa

set_option maxRecDepth 100000
set_option linter.unusedVariables false
namespace Go.Proofs.Ytgifjphinkbcaaa
open Go Go.Ev

/-! ### Nth -/
noncomputable def c40 : Code := match Try.f40.body with | some c => c | _ => .skip
noncomputable def lp40a : Code := loopAt c40 [true, true, true, true, true, true, false, false]
noncomputable def s40a (x : Int) (ra : Int) (rb : Int) (rc : Int) (ps : List (List AV)) (t5 : Int) (t6 : List (List AV)) (t9 : List (List AV)) (m14_0 : Int) (m14_1 : Int) : St :=
  { t := [(1, .i .i64 x), (2, .rp [.int .i64, .int .i64, .int .i64, .sl 31] [.i .i64 ra, .i .i64 rb, .i .i64 rc, .rs 31 ps] 0), (4, .nl), (5, .i .i64 t5), (6, .rs 91 t6), (8, .p 14 0 0), (9, .gv 15 3 t9)], m := [(15, .fr 3), (0, .dead), (1, .dead), (2, .dead), (3, .dead), (4, .dead), (5, .dead), (6, .dead), (7, .dead), (8, .dead), (9, .dead), (10, .dead), (11, .dead), (12, .dead), (13, .dead), (14, .row 78 [[.i .i64 m14_0, .i .i64 m14_1]])], nx := 16, nt := 67 }
noncomputable def lp40aa : Code := loopAt c40 [true, true, true, true, true, true, false, false, false, true, false, true, false]
noncomputable def s40aa (x : Int) (ra : Int) (rb : Int) (rc : Int) (ps : List (List AV)) (t5 : Int) (t6 : List (List AV)) (t9 : List (List AV)) (t36 : List (List AV)) (t37 : Int) (t38 : Int) (m14_0 : Int) (m14_1 : Int) : St :=
  { t := [(1, .i .i64 x), (2, .rp [.int .i64, .int .i64, .int .i64, .sl 31] [.i .i64 ra, .i .i64 rb, .i .i64 rc, .rs 31 ps] 0), (4, .nl), (5, .i .i64 t5), (6, .rs 91 t6), (8, .p 14 0 0), (9, .gv 15 3 t9), (36, .rs 31 t36), (37, .i .i64 t37), (38, .i .i64 t38)], m := [(15, .fr 3), (0, .dead), (1, .dead), (2, .dead), (3, .dead), (4, .dead), (5, .dead), (6, .dead), (7, .dead), (8, .dead), (9, .dead), (10, .dead), (11, .dead), (12, .dead), (13, .dead), (14, .row 78 [[.i .i64 m14_0, .i .i64 m14_1]])], nx := 16, nt := 67 }
structure S40aa where
  x : Int
  t38 : Int
inductive T40aa where
  | x0 (t1 : Int) (t9' : List (List AV)) (t38 : Int) (m14_0' : Int) (m14_1' : Int)
noncomputable def stp40aa (ra : Int) (rb : Int) (rc : Int) (ps : List (List AV)) (t5 : Int) (t6 : List (List AV)) (t9 : List (List AV)) (t36 : List (List AV)) (t37 : Int) (m14_0 : Int) (m14_1 : Int) (x : Int) (t38 : Int) : Lp S40aa T40aa :=
  cond (decide (t38 < t37)) (cond (inb t38 t36.length) (cond (g71 m14_0 m14_1 (fS (t36.getD t38.toNat []) 0) (fI (t36.getD t38.toNat []) 1) (fI (t36.getD t38.toNat []) 2) (fI (t36.getD t38.toNat []) 3) (fI (t36.getD t38.toNat []) 4)) (cond (!w71_2 m14_0 m14_1 (fS (t36.getD t38.toNat []) 0) (fI (t36.getD t38.toNat []) 1) (fI (t36.getD t38.toNat []) 2) (fI (t36.getD t38.toNat []) 3) (fI (t36.getD t38.toNat []) 4)) (.go ⟨x, IntKind.i64.wrap (t38 + 1)⟩) (cond (g51 t6 (w71_0 m14_0 m14_1 (fS (t36.getD t38.toNat []) 0) (fI (t36.getD t38.toNat []) 1) (fI (t36.getD t38.toNat []) 2) (fI (t36.getD t38.toNat []) 3) (fI (t36.getD t38.toNat []) 4)) (w71_1 m14_0 m14_1 (fS (t36.getD t38.toNat []) 0) (fI (t36.getD t38.toNat []) 1) (fI (t36.getD t38.toNat []) 2) (fI (t36.getD t38.toNat []) 3) (fI (t36.getD t38.toNat []) 4))) (cond (decide (x ≥ w51_0 t6 (w71_0 m14_0 m14_1 (fS (t36.getD t38.toNat []) 0) (fI (t36.getD t38.toNat []) 1) (fI (t36.getD t38.toNat []) 2) (fI (t36.getD t38.toNat []) 3) (fI (t36.getD t38.toNat []) 4)) (w71_1 m14_0 m14_1 (fS (t36.getD t38.toNat []) 0) (fI (t36.getD t38.toNat []) 1) (fI (t36.getD t38.toNat []) 2) (fI (t36.getD t38.toNat []) 3) (fI (t36.getD t38.toNat []) 4)))) (.go ⟨IntKind.i64.wrap (x - w51_0 t6 (w71_0 m14_0 m14_1 (fS (t36.getD t38.toNat []) 0) (fI (t36.getD t38.toNat []) 1) (fI (t36.getD t38.toNat []) 2) (fI (t36.getD t38.toNat []) 3) (fI (t36.getD t38.toNat []) 4)) (w71_1 m14_0 m14_1 (fS (t36.getD t38.toNat []) 0) (fI (t36.getD t38.toNat []) 1) (fI (t36.getD t38.toNat []) 2) (fI (t36.getD t38.toNat []) 3) (fI (t36.getD t38.toNat []) 4))), IntKind.i64.wrap (t38 + 1)⟩) (cond ((t9.length + [[AV.i IntKind.i64 t38]].length).ble 9223372036854775807 && true) (cond (((t9.length + [[AV.i IntKind.i64 t38]].length) * 8).ble 140737488355328) (.out (.x0 x (t9 ++ [[AV.i IntKind.i64 t38]]) t38 (w71_0 m14_0 m14_1 (fS (t36.getD t38.toNat []) 0) (fI (t36.getD t38.toNat []) 1) (fI (t36.getD t38.toNat []) 2) (fI (t36.getD t38.toNat []) 3) (fI (t36.getD t38.toNat []) 4)) (w71_1 m14_0 m14_1 (fS (t36.getD t38.toNat []) 0) (fI (t36.getD t38.toNat []) 1) (fI (t36.getD t38.toNat []) 2) (fI (t36.getD t38.toNat []) 3) (fI (t36.getD t38.toNat []) 4)))) (.bad)) (.bad))) (.bad))) (.bad)) (.bad)) (.out (.x0 x t9 t38 m14_0 m14_1))
noncomputable def o40aa_0 (ra : Int) (rb : Int) (rc : Int) (ps : List (List AV)) (t5 : Int) (t6 : List (List AV)) (t9 : List (List AV)) (t36 : List (List AV)) (t37 : Int) (m14_0 : Int) (m14_1 : Int) (t1 : Int) (t9' : List (List AV)) (t38 : Int) (m14_0' : Int) (m14_1' : Int) : St :=
  { t := [(1, .i .i64 t1), (2, .rp [.int .i64, .int .i64, .int .i64, .sl 31] [.i .i64 ra, .i .i64 rb, .i .i64 rc, .rs 31 ps] 0), (4, .nl), (5, .i .i64 t5), (6, .rs 91 t6), (8, .p 14 0 0), (9, .gv 15 3 t9'), (36, .rs 31 t36), (37, .i .i64 t37), (38, .i .i64 t38)], m := [(15, .fr 3), (0, .dead), (1, .dead), (2, .dead), (3, .dead), (4, .dead), (5, .dead), (6, .dead), (7, .dead), (8, .dead), (9, .dead), (10, .dead), (11, .dead), (12, .dead), (13, .dead), (14, .row 78 [[.i .i64 m14_0', .i .i64 m14_1']])], nx := 16, nt := 67 }
noncomputable def ou40aa (ra : Int) (rb : Int) (rc : Int) (ps : List (List AV)) (t5 : Int) (t6 : List (List AV)) (t9 : List (List AV)) (t36 : List (List AV)) (t37 : Int) (m14_0 : Int) (m14_1 : Int) : T40aa → Ex × St
  | .x0 t1 t9' t38 m14_0' m14_1' => (.ext 2, o40aa_0 ra rb rc ps t5 t6 t9 t36 t37 m14_0 m14_1 t1 t9' t38 m14_0' m14_1')
noncomputable def r40aa (ra : Int) (rb : Int) (rc : Int) (ps : List (List AV)) (t5 : Int) (t6 : List (List AV)) (t9 : List (List AV)) (t36 : List (List AV)) (t37 : Int) (m14_0 : Int) (m14_1 : Int) (x : Int) (t38 : Int) : Option T40aa := run (fun x => stp40aa ra rb rc ps t5 t6 t9 t36 t37 m14_0 m14_1 x.x x.t38) (⟨x, t38⟩ : S40aa)
noncomputable def i40aa_0 (ra : Int) (rb : Int) (rc : Int) (ps : List (List AV)) (t5 : Int) (t6 : List (List AV)) (t9 : List (List AV)) (t36 : List (List AV)) (t37 : Int) (m14_0 : Int) (m14_1 : Int) (x : Int) (t38 : Int) : Bool := match r40aa ra rb rc ps t5 t6 t9 t36 t37 m14_0 m14_1 x t38 with
  | some (.x0 _ _ _ _ _) => true
  | _ => false
noncomputable def v40aa_0_t1 (ra : Int) (rb : Int) (rc : Int) (ps : List (List AV)) (t5 : Int) (t6 : List (List AV)) (t9 : List (List AV)) (t36 : List (List AV)) (t37 : Int) (m14_0 : Int) (m14_1 : Int) (x : Int) (t38 : Int) : Int := match r40aa ra rb rc ps t5 t6 t9 t36 t37 m14_0 m14_1 x t38 with
  | some (.x0 t1 _ _ _ _) => t1
  | _ => default
noncomputable def v40aa_0_t9' (ra : Int) (rb : Int) (rc : Int) (ps : List (List AV)) (t5 : Int) (t6 : List (List AV)) (t9 : List (List AV)) (t36 : List (List AV)) (t37 : Int) (m14_0 : Int) (m14_1 : Int) (x : Int) (t38 : Int) : List (List AV) := match r40aa ra rb rc ps t5 t6 t9 t36 t37 m14_0 m14_1 x t38 with
  | some (.x0 _ t9' _ _ _) => t9'
  | _ => default
noncomputable def v40aa_0_t38 (ra : Int) (rb : Int) (rc : Int) (ps : List (List AV)) (t5 : Int) (t6 : List (List AV)) (t9 : List (List AV)) (t36 : List (List AV)) (t37 : Int) (m14_0 : Int) (m14_1 : Int) (x : Int) (t38 : Int) : Int := match r40aa ra rb rc ps t5 t6 t9 t36 t37 m14_0 m14_1 x t38 with
  | some (.x0 _ _ t38 _ _) => t38
  | _ => default
noncomputable def v40aa_0_m14_0' (ra : Int) (rb : Int) (rc : Int) (ps : List (List AV)) (t5 : Int) (t6 : List (List AV)) (t9 : List (List AV)) (t36 : List (List AV)) (t37 : Int) (m14_0 : Int) (m14_1 : Int) (x : Int) (t38 : Int) : Int := match r40aa ra rb rc ps t5 t6 t9 t36 t37 m14_0 m14_1 x t38 with
  | some (.x0 _ _ _ m14_0' _) => m14_0'
  | _ => default
noncomputable def v40aa_0_m14_1' (ra : Int) (rb : Int) (rc : Int) (ps : List (List AV)) (t5 : Int) (t6 : List (List AV)) (t9 : List (List AV)) (t36 : List (List AV)) (t37 : Int) (m14_0 : Int) (m14_1 : Int) (x : Int) (t38 : Int) : Int := match r40aa ra rb rc ps t5 t6 t9 t36 t37 m14_0 m14_1 x t38 with
  | some (.x0 _ _ _ _ m14_1') => m14_1'
  | _ => default
noncomputable def l40aa (st : St) : Option (List (Bool × Ex × St)) := match normW Try.prog [(1, none), (2, none), (4, none), (5, none), (6, none), (8, none), (9, some 3), (36, none), (37, none), (38, none)] 15 st with
  | some ([.i .i64 x, .rp [.int .i64, .int .i64, .int .i64, .sl 31] [.i .i64 ra, .i .i64 rb, .i .i64 rc, .rs 31 ps] 0, .nl, .i .i64 t5, .rs 91 t6, .p 14 0 0, .gv 15 3 t9, .rs 31 t36, .i .i64 t37, .i .i64 t38], [(15, .fr 3), (0, .dead), (1, .dead), (2, .dead), (3, .dead), (4, .dead), (5, .dead), (6, .dead), (7, .dead), (8, .dead), (9, .dead), (10, .dead), (11, .dead), (12, .dead), (13, .dead), (14, .row 78 [[.i .i64 m14_0, .i .i64 m14_1]])], 16, 67) => some [(i40aa_0 ra rb rc ps t5 t6 t9 t36 t37 m14_0 m14_1 x t38, .ext 2, o40aa_0 ra rb rc ps t5 t6 t9 t36 t37 m14_0 m14_1 (v40aa_0_t1 ra rb rc ps t5 t6 t9 t36 t37 m14_0 m14_1 x t38) (v40aa_0_t9' ra rb rc ps t5 t6 t9 t36 t37 m14_0 m14_1 x t38) (v40aa_0_t38 ra rb rc ps t5 t6 t9 t36 t37 m14_0 m14_1 x t38) (v40aa_0_m14_0' ra rb rc ps t5 t6 t9 t36 t37 m14_0 m14_1 x t38) (v40aa_0_m14_1' ra rb rc ps t5 t6 t9 t36 t37 m14_0 m14_1 x t38))]
  | _ => none
structure S40a where
  x : Int
  t9 : List (List AV)
  m14_0 : Int
  m14_1 : Int
inductive T40a where
  | x0 (t1 : Int) (t9 : List (List AV)) (m14_0 : Int) (m14_1 : Int)
noncomputable def stp40a (ra : Int) (rb : Int) (rc : Int) (ps : List (List AV)) (t5 : Int) (t6 : List (List AV)) (x : Int) (t9 : List (List AV)) (m14_0 : Int) (m14_1 : Int) : Lp S40a T40a :=
  cond (decide (m14_0 > 0)) (cond (i40aa_0 ra rb rc ps t5 t6 t9 ps (↑ps.length : Int) m14_0 m14_1 x 0) (.go ⟨v40aa_0_t1 ra rb rc ps t5 t6 t9 ps (↑ps.length : Int) m14_0 m14_1 x 0, v40aa_0_t9' ra rb rc ps t5 t6 t9 ps (↑ps.length : Int) m14_0 m14_1 x 0, v40aa_0_m14_0' ra rb rc ps t5 t6 t9 ps (↑ps.length : Int) m14_0 m14_1 x 0, v40aa_0_m14_1' ra rb rc ps t5 t6 t9 ps (↑ps.length : Int) m14_0 m14_1 x 0⟩) (.bad)) (.out (.x0 x t9 m14_0 m14_1))
noncomputable def o40a_0 (ra : Int) (rb : Int) (rc : Int) (ps : List (List AV)) (t5 : Int) (t6 : List (List AV)) (t1 : Int) (t9 : List (List AV)) (m14_0 : Int) (m14_1 : Int) : St :=
  { t := [(1, .i .i64 t1), (2, .rp [.int .i64, .int .i64, .int .i64, .sl 31] [.i .i64 ra, .i .i64 rb, .i .i64 rc, .rs 31 ps] 0), (4, .nl), (5, .i .i64 t5), (6, .rs 91 t6), (8, .p 14 0 0), (9, .gv 15 3 t9)], m := [(15, .fr 3), (0, .dead), (1, .dead), (2, .dead), (3, .dead), (4, .dead), (5, .dead), (6, .dead), (7, .dead), (8, .dead), (9, .dead), (10, .dead), (11, .dead), (12, .dead), (13, .dead), (14, .row 78 [[.i .i64 m14_0, .i .i64 m14_1]])], nx := 16, nt := 67 }
noncomputable def ou40a (ra : Int) (rb : Int) (rc : Int) (ps : List (List AV)) (t5 : Int) (t6 : List (List AV)) : T40a → Ex × St
  | .x0 t1 t9 m14_0 m14_1 => (.ext 0, o40a_0 ra rb rc ps t5 t6 t1 t9 m14_0 m14_1)
noncomputable def r40a (ra : Int) (rb : Int) (rc : Int) (ps : List (List AV)) (t5 : Int) (t6 : List (List AV)) (x : Int) (t9 : List (List AV)) (m14_0 : Int) (m14_1 : Int) : Option T40a := run (fun x => stp40a ra rb rc ps t5 t6 x.x x.t9 x.m14_0 x.m14_1) (⟨x, t9, m14_0, m14_1⟩ : S40a)
noncomputable def i40a_0 (ra : Int) (rb : Int) (rc : Int) (ps : List (List AV)) (t5 : Int) (t6 : List (List AV)) (x : Int) (t9 : List (List AV)) (m14_0 : Int) (m14_1 : Int) : Bool := match r40a ra rb rc ps t5 t6 x t9 m14_0 m14_1 with
  | some (.x0 _ _ _ _) => true
  | _ => false
noncomputable def v40a_0_t1 (ra : Int) (rb : Int) (rc : Int) (ps : List (List AV)) (t5 : Int) (t6 : List (List AV)) (x : Int) (t9 : List (List AV)) (m14_0 : Int) (m14_1 : Int) : Int := match r40a ra rb rc ps t5 t6 x t9 m14_0 m14_1 with
  | some (.x0 t1 _ _ _) => t1
  | _ => default
noncomputable def v40a_0_t9 (ra : Int) (rb : Int) (rc : Int) (ps : List (List AV)) (t5 : Int) (t6 : List (List AV)) (x : Int) (t9 : List (List AV)) (m14_0 : Int) (m14_1 : Int) : List (List AV) := match r40a ra rb rc ps t5 t6 x t9 m14_0 m14_1 with
  | some (.x0 _ t9 _ _) => t9
  | _ => default
noncomputable def v40a_0_m14_0 (ra : Int) (rb : Int) (rc : Int) (ps : List (List AV)) (t5 : Int) (t6 : List (List AV)) (x : Int) (t9 : List (List AV)) (m14_0 : Int) (m14_1 : Int) : Int := match r40a ra rb rc ps t5 t6 x t9 m14_0 m14_1 with
  | some (.x0 _ _ m14_0 _) => m14_0
  | _ => default
noncomputable def v40a_0_m14_1 (ra : Int) (rb : Int) (rc : Int) (ps : List (List AV)) (t5 : Int) (t6 : List (List AV)) (x : Int) (t9 : List (List AV)) (m14_0 : Int) (m14_1 : Int) : Int := match r40a ra rb rc ps t5 t6 x t9 m14_0 m14_1 with
  | some (.x0 _ _ _ m14_1) => m14_1
  | _ => default
noncomputable def l40a (st : St) : Option (List (Bool × Ex × St)) := match normW Try.prog [(1, none), (2, none), (4, none), (5, none), (6, none), (8, none), (9, some 3)] 15 st with
  | some ([.i .i64 x, .rp [.int .i64, .int .i64, .int .i64, .sl 31] [.i .i64 ra, .i .i64 rb, .i .i64 rc, .rs 31 ps] 0, .nl, .i .i64 t5, .rs 91 t6, .p 14 0 0, .gv 15 3 t9], [(15, .fr 3), (0, .dead), (1, .dead), (2, .dead), (3, .dead), (4, .dead), (5, .dead), (6, .dead), (7, .dead), (8, .dead), (9, .dead), (10, .dead), (11, .dead), (12, .dead), (13, .dead), (14, .row 78 [[.i .i64 m14_0, .i .i64 m14_1]])], 16, 67) => some [(i40a_0 ra rb rc ps t5 t6 x t9 m14_0 m14_1, .ext 0, o40a_0 ra rb rc ps t5 t6 (v40a_0_t1 ra rb rc ps t5 t6 x t9 m14_0 m14_1) (v40a_0_t9 ra rb rc ps t5 t6 x t9 m14_0 m14_1) (v40a_0_m14_0 ra rb rc ps t5 t6 x t9 m14_0 m14_1) (v40a_0_m14_1 ra rb rc ps t5 t6 x t9 m14_0 m14_1))]
  | _ => none
noncomputable def L40 : LSpec := fun p st => match p with
  | [false, true, false, true, false, false, false, true, true, true, true, true, true] => l40aa st
  | [false, false, true, true, true, true, true, true] => l40a st
  | _ => none
theorem is40aa_0 (ra : Int) (rb : Int) (rc : Int) (ps : List (List AV)) (t5 : Int) (t6 : List (List AV)) (t9 : List (List AV)) (t36 : List (List AV)) (t37 : Int) (m14_0 : Int) (m14_1 : Int) (x : Int) (t38 : Int) (h : i40aa_0 ra rb rc ps t5 t6 t9 t36 t37 m14_0 m14_1 x t38 = true) : r40aa ra rb rc ps t5 t6 t9 t36 t37 m14_0 m14_1 x t38 = some (.x0 (v40aa_0_t1 ra rb rc ps t5 t6 t9 t36 t37 m14_0 m14_1 x t38) (v40aa_0_t9' ra rb rc ps t5 t6 t9 t36 t37 m14_0 m14_1 x t38) (v40aa_0_t38 ra rb rc ps t5 t6 t9 t36 t37 m14_0 m14_1 x t38) (v40aa_0_m14_0' ra rb rc ps t5 t6 t9 t36 t37 m14_0 m14_1 x t38) (v40aa_0_m14_1' ra rb rc ps t5 t6 t9 t36 t37 m14_0 m14_1 x t38)) := by
  unfold i40aa_0 at h
  unfold v40aa_0_t1 v40aa_0_t9' v40aa_0_t38 v40aa_0_m14_0' v40aa_0_m14_1'
  generalize r40aa ra rb rc ps t5 t6 t9 t36 t37 m14_0 m14_1 x t38 = r at h ⊢
  rcases r with _ | y
  · cases h
  · cases y <;> first | rfl | cases h
theorem round40aa (x : Int) (ra : Int) (rb : Int) (rc : Int) (ps : List (List AV)) (t5 : Int) (t6 : List (List AV)) (t9 : List (List AV)) (t36 : List (List AV)) (t37 : Int) (t38 : Int) (m14_0 : Int) (m14_1 : Int) : round Try.prog Sh (ro 40) L40 lp40aa [false, true, false, true, false, false, false, true, true, true, true, true, true] [(1, none), (2, none), (4, none), (5, none), (6, none), (8, none), (9, some 3), (36, none), (37, none), (38, none)] 15 (s40aa x ra rb rc ps t5 t6 t9 t36 t37 t38 m14_0 m14_1) =
    cond (decide (t38 < t37)) (cond (inb t38 t36.length) (cond (g71 m14_0 m14_1 (fS (t36.getD t38.toNat []) 0) (fI (t36.getD t38.toNat []) 1) (fI (t36.getD t38.toNat []) 2) (fI (t36.getD t38.toNat []) 3) (fI (t36.getD t38.toNat []) 4)) (cond (!w71_2 m14_0 m14_1 (fS (t36.getD t38.toNat []) 0) (fI (t36.getD t38.toNat []) 1) (fI (t36.getD t38.toNat []) 2) (fI (t36.getD t38.toNat []) 3) (fI (t36.getD t38.toNat []) 4)) (some (.nrm, s40aa x ra rb rc ps t5 t6 t9 t36 t37 (IntKind.i64.wrap (t38 + 1)) m14_0 m14_1)) (cond (g51 t6 (w71_0 m14_0 m14_1 (fS (t36.getD t38.toNat []) 0) (fI (t36.getD t38.toNat []) 1) (fI (t36.getD t38.toNat []) 2) (fI (t36.getD t38.toNat []) 3) (fI (t36.getD t38.toNat []) 4)) (w71_1 m14_0 m14_1 (fS (t36.getD t38.toNat []) 0) (fI (t36.getD t38.toNat []) 1) (fI (t36.getD t38.toNat []) 2) (fI (t36.getD t38.toNat []) 3) (fI (t36.getD t38.toNat []) 4))) (cond (decide (x ≥ w51_0 t6 (w71_0 m14_0 m14_1 (fS (t36.getD t38.toNat []) 0) (fI (t36.getD t38.toNat []) 1) (fI (t36.getD t38.toNat []) 2) (fI (t36.getD t38.toNat []) 3) (fI (t36.getD t38.toNat []) 4)) (w71_1 m14_0 m14_1 (fS (t36.getD t38.toNat []) 0) (fI (t36.getD t38.toNat []) 1) (fI (t36.getD t38.toNat []) 2) (fI (t36.getD t38.toNat []) 3) (fI (t36.getD t38.toNat []) 4)))) (some (.nrm, s40aa (IntKind.i64.wrap (x - w51_0 t6 (w71_0 m14_0 m14_1 (fS (t36.getD t38.toNat []) 0) (fI (t36.getD t38.toNat []) 1) (fI (t36.getD t38.toNat []) 2) (fI (t36.getD t38.toNat []) 3) (fI (t36.getD t38.toNat []) 4)) (w71_1 m14_0 m14_1 (fS (t36.getD t38.toNat []) 0) (fI (t36.getD t38.toNat []) 1) (fI (t36.getD t38.toNat []) 2) (fI (t36.getD t38.toNat []) 3) (fI (t36.getD t38.toNat []) 4)))) ra rb rc ps t5 t6 t9 t36 t37 (IntKind.i64.wrap (t38 + 1)) m14_0 m14_1)) (cond ((t9.length + [[AV.i IntKind.i64 t38]].length).ble 9223372036854775807 && true) (cond (((t9.length + [[AV.i IntKind.i64 t38]].length) * 8).ble 140737488355328) (some (.ext 2, o40aa_0 ra rb rc ps t5 t6 t9 t36 t37 m14_0 m14_1 x (t9 ++ [[AV.i IntKind.i64 t38]]) t38 (w71_0 m14_0 m14_1 (fS (t36.getD t38.toNat []) 0) (fI (t36.getD t38.toNat []) 1) (fI (t36.getD t38.toNat []) 2) (fI (t36.getD t38.toNat []) 3) (fI (t36.getD t38.toNat []) 4)) (w71_1 m14_0 m14_1 (fS (t36.getD t38.toNat []) 0) (fI (t36.getD t38.toNat []) 1) (fI (t36.getD t38.toNat []) 2) (fI (t36.getD t38.toNat []) 3) (fI (t36.getD t38.toNat []) 4)))) (none)) (none))) (none))) (none)) (none)) (some (.ext 2, o40aa_0 ra rb rc ps t5 t6 t9 t36 t37 m14_0 m14_1 x t9 t38 m14_0 m14_1)) := by kernel_rfl
theorem rnd40aa (ra : Int) (rb : Int) (rc : Int) (ps : List (List AV)) (t5 : Int) (t6 : List (List AV)) (t9 : List (List AV)) (t36 : List (List AV)) (t37 : Int) (m14_0 : Int) (m14_1 : Int) (x : S40aa) : round Try.prog Sh (ro 40) L40 lp40aa [false, true, false, true, false, false, false, true, true, true, true, true, true] [(1, none), (2, none), (4, none), (5, none), (6, none), (8, none), (9, some 3), (36, none), (37, none), (38, none)] 15 ((fun x => s40aa x.x ra rb rc ps t5 t6 t9 t36 t37 x.t38 m14_0 m14_1) x) = toR (fun x => s40aa x.x ra rb rc ps t5 t6 t9 t36 t37 x.t38 m14_0 m14_1) (ou40aa ra rb rc ps t5 t6 t9 t36 t37 m14_0 m14_1) (stp40aa ra rb rc ps t5 t6 t9 t36 t37 m14_0 m14_1 x.x x.t38) := by
  refine (round40aa _ _ _ _ _ _ _ _ _ _ _ _ _ ).trans ?_
  unfold stp40aa
  simp only [toR_cond]
  rfl
theorem lok40aa {st : St} {outs : List (Bool × Ex × St)} {e : Ex} {s : St} (hl : l40aa st = some outs) (hch : Chosen outs e s) :
    ∃ keep nb, 0 ≤ nb ∧ LB Try.prog Sh (ro 40) L40 lp40aa [false, true, false, true, false, false, false, true, true, true, true, true, true] keep nb st e s := by
  unfold l40aa at hl
  split at hl
  · rename_i x ra rb rc ps t5 t6 t9 t36 t37 t38 m14_0 m14_1 hno
    cases hl
    have hno := normW_norm hno
    refine ⟨_, _, ?_, .enter hno ?_⟩
    · decide
    have main := fun y h => LB_run (x := (⟨x, t38⟩ : S40aa)) (y := y) (nb := 15) (fun y => by cases y <;> simp [ou40aa]) (rnd40aa ra rb rc ps t5 t6 t9 t36 t37 m14_0 m14_1) h
    obtain ⟨x, hx, hg, rfl, rfl⟩ := chosen_any hch
    simp only [List.mem_cons, List.not_mem_nil, or_false] at hx
    subst hx
    exact main _ (is40aa_0 ra rb rc ps t5 t6 t9 t36 t37 m14_0 m14_1 x t38 hg)
  · cases hl
theorem is40a_0 (ra : Int) (rb : Int) (rc : Int) (ps : List (List AV)) (t5 : Int) (t6 : List (List AV)) (x : Int) (t9 : List (List AV)) (m14_0 : Int) (m14_1 : Int) (h : i40a_0 ra rb rc ps t5 t6 x t9 m14_0 m14_1 = true) : r40a ra rb rc ps t5 t6 x t9 m14_0 m14_1 = some (.x0 (v40a_0_t1 ra rb rc ps t5 t6 x t9 m14_0 m14_1) (v40a_0_t9 ra rb rc ps t5 t6 x t9 m14_0 m14_1) (v40a_0_m14_0 ra rb rc ps t5 t6 x t9 m14_0 m14_1) (v40a_0_m14_1 ra rb rc ps t5 t6 x t9 m14_0 m14_1)) := by
  unfold i40a_0 at h
  unfold v40a_0_t1 v40a_0_t9 v40a_0_m14_0 v40a_0_m14_1
  generalize r40a ra rb rc ps t5 t6 x t9 m14_0 m14_1 = r at h ⊢
  rcases r with _ | y
  · cases h
  · cases y <;> first | rfl | cases h
theorem round40a (x : Int) (ra : Int) (rb : Int) (rc : Int) (ps : List (List AV)) (t5 : Int) (t6 : List (List AV)) (t9 : List (List AV)) (m14_0 : Int) (m14_1 : Int) : round Try.prog Sh (ro 40) L40 lp40a [false, false, true, true, true, true, true, true] [(1, none), (2, none), (4, none), (5, none), (6, none), (8, none), (9, some 3)] 15 (s40a x ra rb rc ps t5 t6 t9 m14_0 m14_1) =
    cond (decide (m14_0 > 0)) (cond (i40aa_0 ra rb rc ps t5 t6 t9 ps (↑ps.length : Int) m14_0 m14_1 x 0) (some (.nrm, s40a (v40aa_0_t1 ra rb rc ps t5 t6 t9 ps (↑ps.length : Int) m14_0 m14_1 x 0) ra rb rc ps t5 t6 (v40aa_0_t9' ra rb rc ps t5 t6 t9 ps (↑ps.length : Int) m14_0 m14_1 x 0) (v40aa_0_m14_0' ra rb rc ps t5 t6 t9 ps (↑ps.length : Int) m14_0 m14_1 x 0) (v40aa_0_m14_1' ra rb rc ps t5 t6 t9 ps (↑ps.length : Int) m14_0 m14_1 x 0))) (none)) (some (.ext 0, o40a_0 ra rb rc ps t5 t6 x t9 m14_0 m14_1)) := by kernel_rfl
theorem rnd40a (ra : Int) (rb : Int) (rc : Int) (ps : List (List AV)) (t5 : Int) (t6 : List (List AV)) (x : S40a) : round Try.prog Sh (ro 40) L40 lp40a [false, false, true, true, true, true, true, true] [(1, none), (2, none), (4, none), (5, none), (6, none), (8, none), (9, some 3)] 15 ((fun x => s40a x.x ra rb rc ps t5 t6 x.t9 x.m14_0 x.m14_1) x) = toR (fun x => s40a x.x ra rb rc ps t5 t6 x.t9 x.m14_0 x.m14_1) (ou40a ra rb rc ps t5 t6) (stp40a ra rb rc ps t5 t6 x.x x.t9 x.m14_0 x.m14_1) := by
  refine (round40a _ _ _ _ _ _ _ _ _ _ ).trans ?_
  unfold stp40a
  simp only [toR_cond]
  rfl
theorem lok40a {st : St} {outs : List (Bool × Ex × St)} {e : Ex} {s : St} (hl : l40a st = some outs) (hch : Chosen outs e s) :
    ∃ keep nb, 0 ≤ nb ∧ LB Try.prog Sh (ro 40) L40 lp40a [false, false, true, true, true, true, true, true] keep nb st e s := by
  unfold l40a at hl
  split at hl
  · rename_i x ra rb rc ps t5 t6 t9 m14_0 m14_1 hno
    cases hl
    have hno := normW_norm hno
    refine ⟨_, _, ?_, .enter hno ?_⟩
    · decide
    have main := fun y h => LB_run (x := (⟨x, t9, m14_0, m14_1⟩ : S40a)) (y := y) (nb := 15) (fun y => by cases y <;> simp [ou40a]) (rnd40a ra rb rc ps t5 t6) h
    obtain ⟨x, hx, hg, rfl, rfl⟩ := chosen_any hch
    simp only [List.mem_cons, List.not_mem_nil, or_false] at hx
    subst hx
    exact main _ (is40a_0 ra rb rc ps t5 t6 x t9 m14_0 m14_1 hg)
  · cases hl
theorem L40_ok (q : Pl) (c : Code) (hq : locate c40 q.reverse = some (.loop c)) (st : St) (outs : List (Bool × Ex × St)) (e : Ex) (s : St) (hl : L40 q st = some outs) (hch : Chosen outs e s) :
    ∃ keep nb, 0 ≤ nb ∧ LB Try.prog Sh (ro 40) L40 c q keep nb st e s := by
  unfold L40 at hl
  split at hl
  · have : locate c40 ([false, true, false, true, false, false, false, true, true, true, true, true, true] : Pl).reverse = some (.loop lp40aa) := by kernel_rfl
    rw [this] at hq
    cases hq
    exact lok40aa hl hch
  · have : locate c40 ([false, false, true, true, true, true, true, true] : Pl).reverse = some (.loop lp40a) := by kernel_rfl
    rw [this] at hq
    cases hq
    exact lok40a hl hch
  · cases hl
theorem lok40 : LOK Try.prog Sh (ro 40) L40 0 false c40 [] :=
  lok_lo L40_ok c40 [] false (locate_nil _) (by kernel_rfl)
noncomputable def t40 (ra rb rc : Int) (ps : List (List AV)) (x : Int) : Tr ((List (List AV)) × (Int)) :=
  .cn (g50 ra rb rc ps) (.cn (w50_1 ra rb rc ps != 0) (.lf ([], w50_1 ra rb rc ps)) (.cn (g51 (w50_0 ra rb rc ps) (w52_0 ra rb rc ps) (w52_1 ra rb rc ps)) (.cn (g55 x 0 (IntKind.i64.wrap (w51_0 (w50_0 ra rb rc ps) (w52_0 ra rb rc ps) (w52_1 ra rb rc ps) - 1))) (.cn (!w55_0 x 0 (IntKind.i64.wrap (w51_0 (w50_0 ra rb rc ps) (w52_0 ra rb rc ps) (w52_1 ra rb rc ps) - 1))) (.lf ([], 1)) (.cn (i40a_0 ra rb rc ps 0 (w50_0 ra rb rc ps) x [] (w52_0 ra rb rc ps) (w52_1 ra rb rc ps)) (.lf (v40a_0_t9 ra rb rc ps 0 (w50_0 ra rb rc ps) x [] (w52_0 ra rb rc ps) (w52_1 ra rb rc ps), 0)) (.nn))) (.nn)) (.nn))) (.nn)
noncomputable def g40 (ra rb rc : Int) (ps : List (List AV)) (x : Int) : Bool := (t40 ra rb rc ps x).g
noncomputable def w40_0 (ra rb rc : Int) (ps : List (List AV)) (x : Int) : List (List AV) := (t40 ra rb rc ps x).val.1
noncomputable def w40_1 (ra rb rc : Int) (ps : List (List AV)) (x : Int) : Int := (t40 ra rb rc ps x).val.2
noncomputable def a40 (ra rb rc : Int) (ps : List (List AV)) (x : Int) : Tr AV :=
  .cn (g50 ra rb rc ps) (.cn (w50_1 ra rb rc ps != 0) (.lf (.tup [.nl, .i .i64 (w50_1 ra rb rc ps)])) (.cn (g51 (w50_0 ra rb rc ps) (w52_0 ra rb rc ps) (w52_1 ra rb rc ps)) (.cn (g55 x 0 (IntKind.i64.wrap (w51_0 (w50_0 ra rb rc ps) (w52_0 ra rb rc ps) (w52_1 ra rb rc ps) - 1))) (.cn (!w55_0 x 0 (IntKind.i64.wrap (w51_0 (w50_0 ra rb rc ps) (w52_0 ra rb rc ps) (w52_1 ra rb rc ps) - 1))) (.lf (.tup [.nl, .i .i64 1])) (.cn (i40a_0 ra rb rc ps 0 (w50_0 ra rb rc ps) x [] (w52_0 ra rb rc ps) (w52_1 ra rb rc ps)) (.lf (.tup [.rs 3 (v40a_0_t9 ra rb rc ps 0 (w50_0 ra rb rc ps) x [] (w52_0 ra rb rc ps) (w52_1 ra rb rc ps)), .i .i64 0])) (.nn))) (.nn)) (.nn))) (.nn)
theorem eq40 (ra rb rc : Int) (ps : List (List AV)) (x : Int) : evF Try.prog Sh (ro 40) L40 Try.f40 [.agg [.i .i64 ra, .i .i64 rb, .i .i64 rc, .rs 31 ps], .i .i64 x] = (a40 ra rb rc ps x).opt id := by kernel_rfl
theorem wk40 (ra rb rc : Int) (ps : List (List AV)) (x : Int) : (a40 ra rb rc ps x).map (wkV [some 3, none]) = (t40 ra rb rc ps x).map (fun (x : (List (List AV)) × (Int)) => (.tup [.rs 3 x.1, .i .i64 x.2] : AV)) := by kernel_rfl
theorem con40 (ra rb rc : Int) (ps : List (List AV)) (x : Int) (h : g40 ra rb rc ps x = true) : Con Try.prog 40 [.agg [.i .i64 ra, .i .i64 rb, .i .i64 rc, .rs 31 ps], .i .i64 x] [] (.tup [.rs 3 (w40_0 ra rb rc ps x), .i .i64 (w40_1 ra rb rc ps x)]) [] := by
  obtain ⟨v, h1, h2⟩ := Tr.soundW (eq40 ra rb rc ps x) (wk40 ra rb rc ps x) h
  have := (con_of Sh_ok mixed Try.func40 (c := c40) rfl (names 40 _ Try.func40) lok40 h1).wk [some 3, none]
  rw [h2] at this
  exact this
noncomputable def e40 (args : List AV) (rows : List Blk) : Option (Bool × AV × List Blk) := match args, rows with
  | [.agg [.i .i64 ra, .i .i64 rb, .i .i64 rc, .rs 31 ps], .i .i64 x], [] => some (g40 ra rb rc ps x, .tup [.rs 3 (w40_0 ra rb rc ps x), .i .i64 (w40_1 ra rb rc ps x)], [])
  | _, _ => none
theorem e40_ok (args : List AV) (rows : List Blk) (pre : Bool) (v : AV) (rows' : List Blk) (h : e40 args rows = some (pre, v, rows')) (hp : pre = true) : Con Try.prog 40 args rows v rows' := by
  unfold e40 at h
  split at h
  · cases h; exact con40 _ _ _ _ _ hp
  · cases h
-- SPEC 40
end Go.Proofs.Ytgifjphinkbcaaa

set_option maxRecDepth 100000
set_option linter.unusedVariables false
namespace Go.Proofs.Ytgifjphinkbcaaa
open Go Go.Ev

/-! ### ref Nth -/
noncomputable def c41 : Code := match Try.f41.body with | some c => c | _ => .skip
noncomputable def lp41a : Code := loopAt c41 [true, true, true, true, true, true, false, false]
noncomputable def s41a (x : Int) (ra : Int) (rb : Int) (rc : Int) (ps : List (List AV)) (t5 : Int) (t6 : List (List AV)) (t8 : List (List AV)) (t9 : Int) (t10 : Int) : St :=
  { t := [(1, .i .i64 x), (2, .rp [.int .i64, .int .i64, .int .i64, .sl 31] [.i .i64 ra, .i .i64 rb, .i .i64 rc, .rs 31 ps] 0), (4, .nl), (5, .i .i64 t5), (6, .rs 91 t6), (8, .gv 0 3 t8), (9, .i .i64 t9), (10, .i .i64 t10)], m := [(0, .fr 3)], nx := 1, nt := 93 }
noncomputable def lp41aa : Code := loopAt c41 [true, true, true, true, true, true, false, false, false, true, false, true, false]
noncomputable def s41aa (x : Int) (ra : Int) (rb : Int) (rc : Int) (ps : List (List AV)) (t5 : Int) (t6 : List (List AV)) (t8 : List (List AV)) (t9 : Int) (t10 : Int) (t11 : Int) : St :=
  { t := [(1, .i .i64 x), (2, .rp [.int .i64, .int .i64, .int .i64, .sl 31] [.i .i64 ra, .i .i64 rb, .i .i64 rc, .rs 31 ps] 0), (4, .nl), (5, .i .i64 t5), (6, .rs 91 t6), (8, .gv 0 3 t8), (9, .i .i64 t9), (10, .i .i64 t10), (11, .i .i64 t11)], m := [(0, .fr 3)], nx := 1, nt := 93 }
structure S41aa where
  x : Int
  t11 : Int
inductive T41aa where
  | x0 (t1 : Int) (t8' : List (List AV)) (t9' : Int) (t10' : Int) (t11 : Int)
noncomputable def stp41aa (ra : Int) (rb : Int) (rc : Int) (ps : List (List AV)) (t5 : Int) (t6 : List (List AV)) (t8 : List (List AV)) (t9 : Int) (t10 : Int) (x : Int) (t11 : Int) : Lp S41aa T41aa :=
  cond (decide (t11 < (↑ps.length : Int))) (cond (inb t11 ps.length) (cond (fI (ps.getD t11.toNat []) 2 != t10) (.go ⟨x, IntKind.i64.wrap (t11 + 1)⟩) (cond (decide (fI (ps.getD t11.toNat []) 1 > t9)) (.go ⟨x, IntKind.i64.wrap (t11 + 1)⟩) (cond (inb (IntKind.i64.wrap (t9 - fI (ps.getD t11.toNat []) 1)) t6.length) (cond (inb (fI (ps.getD t11.toNat []) 3) 10) (cond (ctsAt (cts Try.prog 91) (0 + (fI (ps.getD t11.toNat []) 3).toNat * 1) (cts Try.prog 3)) (cond (decide (x < toI ((t6.getD (IntKind.i64.wrap (t9 - fI (ps.getD t11.toNat []) 1)).toNat []).getD (0 + (fI (ps.getD t11.toNat []) 3).toNat * 1) AV.u))) (cond ((t8.length + [[AV.i IntKind.i64 t11]].length).ble 9223372036854775807 && true) (cond (((t8.length + [[AV.i IntKind.i64 t11]].length) * 8).ble 140737488355328) (.out (.x0 x (t8 ++ [[AV.i IntKind.i64 t11]]) (IntKind.i64.wrap (t9 - fI (ps.getD t11.toNat []) 1)) (fI (ps.getD t11.toNat []) 3) t11)) (.bad)) (.bad)) (.go ⟨IntKind.i64.wrap (x - toI ((t6.getD (IntKind.i64.wrap (t9 - fI (ps.getD t11.toNat []) 1)).toNat []).getD (0 + (fI (ps.getD t11.toNat []) 3).toNat * 1) AV.u)), IntKind.i64.wrap (t11 + 1)⟩)) (.bad)) (.bad)) (.bad)))) (.bad)) (.out (.x0 x t8 t9 t10 t11))
noncomputable def o41aa_0 (ra : Int) (rb : Int) (rc : Int) (ps : List (List AV)) (t5 : Int) (t6 : List (List AV)) (t8 : List (List AV)) (t9 : Int) (t10 : Int) (t1 : Int) (t8' : List (List AV)) (t9' : Int) (t10' : Int) (t11 : Int) : St :=
  { t := [(1, .i .i64 t1), (2, .rp [.int .i64, .int .i64, .int .i64, .sl 31] [.i .i64 ra, .i .i64 rb, .i .i64 rc, .rs 31 ps] 0), (4, .nl), (5, .i .i64 t5), (6, .rs 91 t6), (8, .gv 0 3 t8'), (9, .i .i64 t9'), (10, .i .i64 t10'), (11, .i .i64 t11)], m := [(0, .fr 3)], nx := 1, nt := 93 }
noncomputable def ou41aa (ra : Int) (rb : Int) (rc : Int) (ps : List (List AV)) (t5 : Int) (t6 : List (List AV)) (t8 : List (List AV)) (t9 : Int) (t10 : Int) : T41aa → Ex × St
  | .x0 t1 t8' t9' t10' t11 => (.ext 2, o41aa_0 ra rb rc ps t5 t6 t8 t9 t10 t1 t8' t9' t10' t11)
noncomputable def r41aa (ra : Int) (rb : Int) (rc : Int) (ps : List (List AV)) (t5 : Int) (t6 : List (List AV)) (t8 : List (List AV)) (t9 : Int) (t10 : Int) (x : Int) (t11 : Int) : Option T41aa := run (fun x => stp41aa ra rb rc ps t5 t6 t8 t9 t10 x.x x.t11) (⟨x, t11⟩ : S41aa)
noncomputable def i41aa_0 (ra : Int) (rb : Int) (rc : Int) (ps : List (List AV)) (t5 : Int) (t6 : List (List AV)) (t8 : List (List AV)) (t9 : Int) (t10 : Int) (x : Int) (t11 : Int) : Bool := match r41aa ra rb rc ps t5 t6 t8 t9 t10 x t11 with
  | some (.x0 _ _ _ _ _) => true
  | _ => false
noncomputable def v41aa_0_t1 (ra : Int) (rb : Int) (rc : Int) (ps : List (List AV)) (t5 : Int) (t6 : List (List AV)) (t8 : List (List AV)) (t9 : Int) (t10 : Int) (x : Int) (t11 : Int) : Int := match r41aa ra rb rc ps t5 t6 t8 t9 t10 x t11 with
  | some (.x0 t1 _ _ _ _) => t1
  | _ => default
noncomputable def v41aa_0_t8' (ra : Int) (rb : Int) (rc : Int) (ps : List (List AV)) (t5 : Int) (t6 : List (List AV)) (t8 : List (List AV)) (t9 : Int) (t10 : Int) (x : Int) (t11 : Int) : List (List AV) := match r41aa ra rb rc ps t5 t6 t8 t9 t10 x t11 with
  | some (.x0 _ t8' _ _ _) => t8'
  | _ => default
noncomputable def v41aa_0_t9' (ra : Int) (rb : Int) (rc : Int) (ps : List (List AV)) (t5 : Int) (t6 : List (List AV)) (t8 : List (List AV)) (t9 : Int) (t10 : Int) (x : Int) (t11 : Int) : Int := match r41aa ra rb rc ps t5 t6 t8 t9 t10 x t11 with
  | some (.x0 _ _ t9' _ _) => t9'
  | _ => default
noncomputable def v41aa_0_t10' (ra : Int) (rb : Int) (rc : Int) (ps : List (List AV)) (t5 : Int) (t6 : List (List AV)) (t8 : List (List AV)) (t9 : Int) (t10 : Int) (x : Int) (t11 : Int) : Int := match r41aa ra rb rc ps t5 t6 t8 t9 t10 x t11 with
  | some (.x0 _ _ _ t10' _) => t10'
  | _ => default
noncomputable def v41aa_0_t11 (ra : Int) (rb : Int) (rc : Int) (ps : List (List AV)) (t5 : Int) (t6 : List (List AV)) (t8 : List (List AV)) (t9 : Int) (t10 : Int) (x : Int) (t11 : Int) : Int := match r41aa ra rb rc ps t5 t6 t8 t9 t10 x t11 with
  | some (.x0 _ _ _ _ t11) => t11
  | _ => default
noncomputable def l41aa (st : St) : Option (List (Bool × Ex × St)) := match normW Try.prog [(1, none), (2, none), (4, none), (5, none), (6, none), (8, some 3), (9, none), (10, none), (11, none)] 0 st with
  | some ([.i .i64 x, .rp [.int .i64, .int .i64, .int .i64, .sl 31] [.i .i64 ra, .i .i64 rb, .i .i64 rc, .rs 31 ps] 0, .nl, .i .i64 t5, .rs 91 t6, .gv 0 3 t8, .i .i64 t9, .i .i64 t10, .i .i64 t11], [(0, .fr 3)], 1, 93) => some [(i41aa_0 ra rb rc ps t5 t6 t8 t9 t10 x t11, .ext 2, o41aa_0 ra rb rc ps t5 t6 t8 t9 t10 (v41aa_0_t1 ra rb rc ps t5 t6 t8 t9 t10 x t11) (v41aa_0_t8' ra rb rc ps t5 t6 t8 t9 t10 x t11) (v41aa_0_t9' ra rb rc ps t5 t6 t8 t9 t10 x t11) (v41aa_0_t10' ra rb rc ps t5 t6 t8 t9 t10 x t11) (v41aa_0_t11 ra rb rc ps t5 t6 t8 t9 t10 x t11))]
  | _ => none
structure S41a where
  x : Int
  t8 : List (List AV)
  t9 : Int
  t10 : Int
inductive T41a where
  | x0 (t1 : Int) (t8 : List (List AV)) (t9 : Int) (t10 : Int)
noncomputable def stp41a (ra : Int) (rb : Int) (rc : Int) (ps : List (List AV)) (t5 : Int) (t6 : List (List AV)) (x : Int) (t8 : List (List AV)) (t9 : Int) (t10 : Int) : Lp S41a T41a :=
  cond (decide (t9 > 0)) (cond (i41aa_0 ra rb rc ps t5 t6 t8 t9 t10 x 0) (.go ⟨v41aa_0_t1 ra rb rc ps t5 t6 t8 t9 t10 x 0, v41aa_0_t8' ra rb rc ps t5 t6 t8 t9 t10 x 0, v41aa_0_t9' ra rb rc ps t5 t6 t8 t9 t10 x 0, v41aa_0_t10' ra rb rc ps t5 t6 t8 t9 t10 x 0⟩) (.bad)) (.out (.x0 x t8 t9 t10))
noncomputable def o41a_0 (ra : Int) (rb : Int) (rc : Int) (ps : List (List AV)) (t5 : Int) (t6 : List (List AV)) (t1 : Int) (t8 : List (List AV)) (t9 : Int) (t10 : Int) : St :=
  { t := [(1, .i .i64 t1), (2, .rp [.int .i64, .int .i64, .int .i64, .sl 31] [.i .i64 ra, .i .i64 rb, .i .i64 rc, .rs 31 ps] 0), (4, .nl), (5, .i .i64 t5), (6, .rs 91 t6), (8, .gv 0 3 t8), (9, .i .i64 t9), (10, .i .i64 t10)], m := [(0, .fr 3)], nx := 1, nt := 93 }
noncomputable def ou41a (ra : Int) (rb : Int) (rc : Int) (ps : List (List AV)) (t5 : Int) (t6 : List (List AV)) : T41a → Ex × St
  | .x0 t1 t8 t9 t10 => (.ext 0, o41a_0 ra rb rc ps t5 t6 t1 t8 t9 t10)
noncomputable def r41a (ra : Int) (rb : Int) (rc : Int) (ps : List (List AV)) (t5 : Int) (t6 : List (List AV)) (x : Int) (t8 : List (List AV)) (t9 : Int) (t10 : Int) : Option T41a := run (fun x => stp41a ra rb rc ps t5 t6 x.x x.t8 x.t9 x.t10) (⟨x, t8, t9, t10⟩ : S41a)
noncomputable def i41a_0 (ra : Int) (rb : Int) (rc : Int) (ps : List (List AV)) (t5 : Int) (t6 : List (List AV)) (x : Int) (t8 : List (List AV)) (t9 : Int) (t10 : Int) : Bool := match r41a ra rb rc ps t5 t6 x t8 t9 t10 with
  | some (.x0 _ _ _ _) => true
  | _ => false
noncomputable def v41a_0_t1 (ra : Int) (rb : Int) (rc : Int) (ps : List (List AV)) (t5 : Int) (t6 : List (List AV)) (x : Int) (t8 : List (List AV)) (t9 : Int) (t10 : Int) : Int := match r41a ra rb rc ps t5 t6 x t8 t9 t10 with
  | some (.x0 t1 _ _ _) => t1
  | _ => default
noncomputable def v41a_0_t8 (ra : Int) (rb : Int) (rc : Int) (ps : List (List AV)) (t5 : Int) (t6 : List (List AV)) (x : Int) (t8 : List (List AV)) (t9 : Int) (t10 : Int) : List (List AV) := match r41a ra rb rc ps t5 t6 x t8 t9 t10 with
  | some (.x0 _ t8 _ _) => t8
  | _ => default
noncomputable def v41a_0_t9 (ra : Int) (rb : Int) (rc : Int) (ps : List (List AV)) (t5 : Int) (t6 : List (List AV)) (x : Int) (t8 : List (List AV)) (t9 : Int) (t10 : Int) : Int := match r41a ra rb rc ps t5 t6 x t8 t9 t10 with
  | some (.x0 _ _ t9 _) => t9
  | _ => default
noncomputable def v41a_0_t10 (ra : Int) (rb : Int) (rc : Int) (ps : List (List AV)) (t5 : Int) (t6 : List (List AV)) (x : Int) (t8 : List (List AV)) (t9 : Int) (t10 : Int) : Int := match r41a ra rb rc ps t5 t6 x t8 t9 t10 with
  | some (.x0 _ _ _ t10) => t10
  | _ => default
noncomputable def l41a (st : St) : Option (List (Bool × Ex × St)) := match normW Try.prog [(1, none), (2, none), (4, none), (5, none), (6, none), (8, some 3), (9, none), (10, none)] 0 st with
  | some ([.i .i64 x, .rp [.int .i64, .int .i64, .int .i64, .sl 31] [.i .i64 ra, .i .i64 rb, .i .i64 rc, .rs 31 ps] 0, .nl, .i .i64 t5, .rs 91 t6, .gv 0 3 t8, .i .i64 t9, .i .i64 t10], [(0, .fr 3)], 1, 93) => some [(i41a_0 ra rb rc ps t5 t6 x t8 t9 t10, .ext 0, o41a_0 ra rb rc ps t5 t6 (v41a_0_t1 ra rb rc ps t5 t6 x t8 t9 t10) (v41a_0_t8 ra rb rc ps t5 t6 x t8 t9 t10) (v41a_0_t9 ra rb rc ps t5 t6 x t8 t9 t10) (v41a_0_t10 ra rb rc ps t5 t6 x t8 t9 t10))]
  | _ => none
noncomputable def L41 : LSpec := fun p st => match p with
  | [false, true, false, true, false, false, false, true, true, true, true, true, true] => l41aa st
  | [false, false, true, true, true, true, true, true] => l41a st
  | _ => none
theorem is41aa_0 (ra : Int) (rb : Int) (rc : Int) (ps : List (List AV)) (t5 : Int) (t6 : List (List AV)) (t8 : List (List AV)) (t9 : Int) (t10 : Int) (x : Int) (t11 : Int) (h : i41aa_0 ra rb rc ps t5 t6 t8 t9 t10 x t11 = true) : r41aa ra rb rc ps t5 t6 t8 t9 t10 x t11 = some (.x0 (v41aa_0_t1 ra rb rc ps t5 t6 t8 t9 t10 x t11) (v41aa_0_t8' ra rb rc ps t5 t6 t8 t9 t10 x t11) (v41aa_0_t9' ra rb rc ps t5 t6 t8 t9 t10 x t11) (v41aa_0_t10' ra rb rc ps t5 t6 t8 t9 t10 x t11) (v41aa_0_t11 ra rb rc ps t5 t6 t8 t9 t10 x t11)) := by
  unfold i41aa_0 at h
  unfold v41aa_0_t1 v41aa_0_t8' v41aa_0_t9' v41aa_0_t10' v41aa_0_t11
  generalize r41aa ra rb rc ps t5 t6 t8 t9 t10 x t11 = r at h ⊢
  rcases r with _ | y
  · cases h
  · cases y <;> first | rfl | cases h
theorem round41aa (x : Int) (ra : Int) (rb : Int) (rc : Int) (ps : List (List AV)) (t5 : Int) (t6 : List (List AV)) (t8 : List (List AV)) (t9 : Int) (t10 : Int) (t11 : Int) : round Try.prog Sh (ro 41) L41 lp41aa [false, true, false, true, false, false, false, true, true, true, true, true, true] [(1, none), (2, none), (4, none), (5, none), (6, none), (8, some 3), (9, none), (10, none), (11, none)] 0 (s41aa x ra rb rc ps t5 t6 t8 t9 t10 t11) =
    cond (decide (t11 < (↑ps.length : Int))) (cond (inb t11 ps.length) (cond (fI (ps.getD t11.toNat []) 2 != t10) (some (.nrm, s41aa x ra rb rc ps t5 t6 t8 t9 t10 (IntKind.i64.wrap (t11 + 1)))) (cond (decide (fI (ps.getD t11.toNat []) 1 > t9)) (some (.nrm, s41aa x ra rb rc ps t5 t6 t8 t9 t10 (IntKind.i64.wrap (t11 + 1)))) (cond (inb (IntKind.i64.wrap (t9 - fI (ps.getD t11.toNat []) 1)) t6.length) (cond (inb (fI (ps.getD t11.toNat []) 3) 10) (cond (ctsAt (cts Try.prog 91) (0 + (fI (ps.getD t11.toNat []) 3).toNat * 1) (cts Try.prog 3)) (cond (decide (x < toI ((t6.getD (IntKind.i64.wrap (t9 - fI (ps.getD t11.toNat []) 1)).toNat []).getD (0 + (fI (ps.getD t11.toNat []) 3).toNat * 1) AV.u))) (cond ((t8.length + [[AV.i IntKind.i64 t11]].length).ble 9223372036854775807 && true) (cond (((t8.length + [[AV.i IntKind.i64 t11]].length) * 8).ble 140737488355328) (some (.ext 2, o41aa_0 ra rb rc ps t5 t6 t8 t9 t10 x (t8 ++ [[AV.i IntKind.i64 t11]]) (IntKind.i64.wrap (t9 - fI (ps.getD t11.toNat []) 1)) (fI (ps.getD t11.toNat []) 3) t11)) (none)) (none)) (some (.nrm, s41aa (IntKind.i64.wrap (x - toI ((t6.getD (IntKind.i64.wrap (t9 - fI (ps.getD t11.toNat []) 1)).toNat []).getD (0 + (fI (ps.getD t11.toNat []) 3).toNat * 1) AV.u))) ra rb rc ps t5 t6 t8 t9 t10 (IntKind.i64.wrap (t11 + 1))))) (none)) (none)) (none)))) (none)) (some (.ext 2, o41aa_0 ra rb rc ps t5 t6 t8 t9 t10 x t8 t9 t10 t11)) := by kernel_rfl
theorem rnd41aa (ra : Int) (rb : Int) (rc : Int) (ps : List (List AV)) (t5 : Int) (t6 : List (List AV)) (t8 : List (List AV)) (t9 : Int) (t10 : Int) (x : S41aa) : round Try.prog Sh (ro 41) L41 lp41aa [false, true, false, true, false, false, false, true, true, true, true, true, true] [(1, none), (2, none), (4, none), (5, none), (6, none), (8, some 3), (9, none), (10, none), (11, none)] 0 ((fun x => s41aa x.x ra rb rc ps t5 t6 t8 t9 t10 x.t11) x) = toR (fun x => s41aa x.x ra rb rc ps t5 t6 t8 t9 t10 x.t11) (ou41aa ra rb rc ps t5 t6 t8 t9 t10) (stp41aa ra rb rc ps t5 t6 t8 t9 t10 x.x x.t11) := by
  refine (round41aa _ _ _ _ _ _ _ _ _ _ _ ).trans ?_
  unfold stp41aa
  simp only [toR_cond]
  rfl
theorem lok41aa {st : St} {outs : List (Bool × Ex × St)} {e : Ex} {s : St} (hl : l41aa st = some outs) (hch : Chosen outs e s) :
    ∃ keep nb, 0 ≤ nb ∧ LB Try.prog Sh (ro 41) L41 lp41aa [false, true, false, true, false, false, false, true, true, true, true, true, true] keep nb st e s := by
  unfold l41aa at hl
  split at hl
  · rename_i x ra rb rc ps t5 t6 t8 t9 t10 t11 hno
    cases hl
    have hno := normW_norm hno
    refine ⟨_, _, ?_, .enter hno ?_⟩
    · decide
    have main := fun y h => LB_run (x := (⟨x, t11⟩ : S41aa)) (y := y) (nb := 0) (fun y => by cases y <;> simp [ou41aa]) (rnd41aa ra rb rc ps t5 t6 t8 t9 t10) h
    obtain ⟨x, hx, hg, rfl, rfl⟩ := chosen_any hch
    simp only [List.mem_cons, List.not_mem_nil, or_false] at hx
    subst hx
    exact main _ (is41aa_0 ra rb rc ps t5 t6 t8 t9 t10 x t11 hg)
  · cases hl
theorem is41a_0 (ra : Int) (rb : Int) (rc : Int) (ps : List (List AV)) (t5 : Int) (t6 : List (List AV)) (x : Int) (t8 : List (List AV)) (t9 : Int) (t10 : Int) (h : i41a_0 ra rb rc ps t5 t6 x t8 t9 t10 = true) : r41a ra rb rc ps t5 t6 x t8 t9 t10 = some (.x0 (v41a_0_t1 ra rb rc ps t5 t6 x t8 t9 t10) (v41a_0_t8 ra rb rc ps t5 t6 x t8 t9 t10) (v41a_0_t9 ra rb rc ps t5 t6 x t8 t9 t10) (v41a_0_t10 ra rb rc ps t5 t6 x t8 t9 t10)) := by
  unfold i41a_0 at h
  unfold v41a_0_t1 v41a_0_t8 v41a_0_t9 v41a_0_t10
  generalize r41a ra rb rc ps t5 t6 x t8 t9 t10 = r at h ⊢
  rcases r with _ | y
  · cases h
  · cases y <;> first | rfl | cases h
theorem round41a (x : Int) (ra : Int) (rb : Int) (rc : Int) (ps : List (List AV)) (t5 : Int) (t6 : List (List AV)) (t8 : List (List AV)) (t9 : Int) (t10 : Int) : round Try.prog Sh (ro 41) L41 lp41a [false, false, true, true, true, true, true, true] [(1, none), (2, none), (4, none), (5, none), (6, none), (8, some 3), (9, none), (10, none)] 0 (s41a x ra rb rc ps t5 t6 t8 t9 t10) =
    cond (decide (t9 > 0)) (cond (i41aa_0 ra rb rc ps t5 t6 t8 t9 t10 x 0) (some (.nrm, s41a (v41aa_0_t1 ra rb rc ps t5 t6 t8 t9 t10 x 0) ra rb rc ps t5 t6 (v41aa_0_t8' ra rb rc ps t5 t6 t8 t9 t10 x 0) (v41aa_0_t9' ra rb rc ps t5 t6 t8 t9 t10 x 0) (v41aa_0_t10' ra rb rc ps t5 t6 t8 t9 t10 x 0))) (none)) (some (.ext 0, o41a_0 ra rb rc ps t5 t6 x t8 t9 t10)) := by kernel_rfl
theorem rnd41a (ra : Int) (rb : Int) (rc : Int) (ps : List (List AV)) (t5 : Int) (t6 : List (List AV)) (x : S41a) : round Try.prog Sh (ro 41) L41 lp41a [false, false, true, true, true, true, true, true] [(1, none), (2, none), (4, none), (5, none), (6, none), (8, some 3), (9, none), (10, none)] 0 ((fun x => s41a x.x ra rb rc ps t5 t6 x.t8 x.t9 x.t10) x) = toR (fun x => s41a x.x ra rb rc ps t5 t6 x.t8 x.t9 x.t10) (ou41a ra rb rc ps t5 t6) (stp41a ra rb rc ps t5 t6 x.x x.t8 x.t9 x.t10) := by
  refine (round41a _ _ _ _ _ _ _ _ _ _ ).trans ?_
  unfold stp41a
  simp only [toR_cond]
  rfl
theorem lok41a {st : St} {outs : List (Bool × Ex × St)} {e : Ex} {s : St} (hl : l41a st = some outs) (hch : Chosen outs e s) :
    ∃ keep nb, 0 ≤ nb ∧ LB Try.prog Sh (ro 41) L41 lp41a [false, false, true, true, true, true, true, true] keep nb st e s := by
  unfold l41a at hl
  split at hl
  · rename_i x ra rb rc ps t5 t6 t8 t9 t10 hno
    cases hl
    have hno := normW_norm hno
    refine ⟨_, _, ?_, .enter hno ?_⟩
    · decide
    have main := fun y h => LB_run (x := (⟨x, t8, t9, t10⟩ : S41a)) (y := y) (nb := 0) (fun y => by cases y <;> simp [ou41a]) (rnd41a ra rb rc ps t5 t6) h
    obtain ⟨x, hx, hg, rfl, rfl⟩ := chosen_any hch
    simp only [List.mem_cons, List.not_mem_nil, or_false] at hx
    subst hx
    exact main _ (is41a_0 ra rb rc ps t5 t6 x t8 t9 t10 hg)
  · cases hl
theorem L41_ok (q : Pl) (c : Code) (hq : locate c41 q.reverse = some (.loop c)) (st : St) (outs : List (Bool × Ex × St)) (e : Ex) (s : St) (hl : L41 q st = some outs) (hch : Chosen outs e s) :
    ∃ keep nb, 0 ≤ nb ∧ LB Try.prog Sh (ro 41) L41 c q keep nb st e s := by
  unfold L41 at hl
  split at hl
  · have : locate c41 ([false, true, false, true, false, false, false, true, true, true, true, true, true] : Pl).reverse = some (.loop lp41aa) := by kernel_rfl
    rw [this] at hq
    cases hq
    exact lok41aa hl hch
  · have : locate c41 ([false, false, true, true, true, true, true, true] : Pl).reverse = some (.loop lp41a) := by kernel_rfl
    rw [this] at hq
    cases hq
    exact lok41a hl hch
  · cases hl
theorem lok41 : LOK Try.prog Sh (ro 41) L41 0 false c41 [] :=
  lok_lo L41_ok c41 [] false (locate_nil _) (by kernel_rfl)
noncomputable def t41 (ra rb rc : Int) (ps : List (List AV)) (x : Int) : Tr ((List (List AV)) × (Int)) :=
  .cn (g67 ra rb rc ps) (.cn (w67_1 ra rb rc ps == 0) (.cn (inb ra (w67_0 ra rb rc ps).length) (.cn (inb rb 10) (.cn (ctsAt (cts Try.prog 91) (0 + rb.toNat * 1) (cts Try.prog 3)) (.cn (g57 x 0 (IntKind.i64.wrap (toI (((w67_0 ra rb rc ps).getD ra.toNat []).getD (0 + rb.toNat * 1) AV.u) - 1))) (.cn (!w57_0 x 0 (IntKind.i64.wrap (toI (((w67_0 ra rb rc ps).getD ra.toNat []).getD (0 + rb.toNat * 1) AV.u) - 1))) (.lf ([], 1)) (.cn (w67_1 ra rb rc ps != 0) (.lf ([], w67_1 ra rb rc ps)) (.cn (i41a_0 ra rb rc ps 0 (w67_0 ra rb rc ps) x [] ra rb) (.lf (v41a_0_t8 ra rb rc ps 0 (w67_0 ra rb rc ps) x [] ra rb, 0)) (.nn)))) (.nn)) (.nn)) (.nn)) (.nn)) (.cn (w67_1 ra rb rc ps != 0) (.lf ([], w67_1 ra rb rc ps)) (.cn (i41a_0 ra rb rc ps 0 (w67_0 ra rb rc ps) x [] ra rb) (.lf (v41a_0_t8 ra rb rc ps 0 (w67_0 ra rb rc ps) x [] ra rb, 0)) (.nn)))) (.nn)
noncomputable def g41 (ra rb rc : Int) (ps : List (List AV)) (x : Int) : Bool := (t41 ra rb rc ps x).g
noncomputable def w41_0 (ra rb rc : Int) (ps : List (List AV)) (x : Int) : List (List AV) := (t41 ra rb rc ps x).val.1
noncomputable def w41_1 (ra rb rc : Int) (ps : List (List AV)) (x : Int) : Int := (t41 ra rb rc ps x).val.2
noncomputable def a41 (ra rb rc : Int) (ps : List (List AV)) (x : Int) : Tr AV :=
  .cn (g67 ra rb rc ps) (.cn (w67_1 ra rb rc ps == 0) (.cn (inb ra (w67_0 ra rb rc ps).length) (.cn (inb rb 10) (.cn (ctsAt (cts Try.prog 91) (0 + rb.toNat * 1) (cts Try.prog 3)) (.cn (g57 x 0 (IntKind.i64.wrap (toI (((w67_0 ra rb rc ps).getD ra.toNat []).getD (0 + rb.toNat * 1) AV.u) - 1))) (.cn (!w57_0 x 0 (IntKind.i64.wrap (toI (((w67_0 ra rb rc ps).getD ra.toNat []).getD (0 + rb.toNat * 1) AV.u) - 1))) (.lf (.tup [.nl, .i .i64 1])) (.cn (w67_1 ra rb rc ps != 0) (.lf (.tup [.nl, .i .i64 (w67_1 ra rb rc ps)])) (.cn (i41a_0 ra rb rc ps 0 (w67_0 ra rb rc ps) x [] ra rb) (.lf (.tup [.rs 3 (v41a_0_t8 ra rb rc ps 0 (w67_0 ra rb rc ps) x [] ra rb), .i .i64 0])) (.nn)))) (.nn)) (.nn)) (.nn)) (.nn)) (.cn (w67_1 ra rb rc ps != 0) (.lf (.tup [.nl, .i .i64 (w67_1 ra rb rc ps)])) (.cn (i41a_0 ra rb rc ps 0 (w67_0 ra rb rc ps) x [] ra rb) (.lf (.tup [.rs 3 (v41a_0_t8 ra rb rc ps 0 (w67_0 ra rb rc ps) x [] ra rb), .i .i64 0])) (.nn)))) (.nn)
theorem eq41 (ra rb rc : Int) (ps : List (List AV)) (x : Int) : evF Try.prog Sh (ro 41) L41 Try.f41 [.agg [.i .i64 ra, .i .i64 rb, .i .i64 rc, .rs 31 ps], .i .i64 x] = (a41 ra rb rc ps x).opt id := by kernel_rfl
theorem wk41 (ra rb rc : Int) (ps : List (List AV)) (x : Int) : (a41 ra rb rc ps x).map (wkV [some 3, none]) = (t41 ra rb rc ps x).map (fun (x : (List (List AV)) × (Int)) => (.tup [.rs 3 x.1, .i .i64 x.2] : AV)) := by kernel_rfl
theorem con41 (ra rb rc : Int) (ps : List (List AV)) (x : Int) (h : g41 ra rb rc ps x = true) : Con Try.prog 41 [.agg [.i .i64 ra, .i .i64 rb, .i .i64 rc, .rs 31 ps], .i .i64 x] [] (.tup [.rs 3 (w41_0 ra rb rc ps x), .i .i64 (w41_1 ra rb rc ps x)]) [] := by
  obtain ⟨v, h1, h2⟩ := Tr.soundW (eq41 ra rb rc ps x) (wk41 ra rb rc ps x) h
  have := (con_of Sh_ok mixed Try.func41 (c := c41) rfl (names 41 _ Try.func41) lok41 h1).wk [some 3, none]
  rw [h2] at this
  exact this
noncomputable def e41 (args : List AV) (rows : List Blk) : Option (Bool × AV × List Blk) := match args, rows with
  | [.agg [.i .i64 ra, .i .i64 rb, .i .i64 rc, .rs 31 ps], .i .i64 x], [] => some (g41 ra rb rc ps x, .tup [.rs 3 (w41_0 ra rb rc ps x), .i .i64 (w41_1 ra rb rc ps x)], [])
  | _, _ => none
theorem e41_ok (args : List AV) (rows : List Blk) (pre : Bool) (v : AV) (rows' : List Blk) (h : e41 args rows = some (pre, v, rows')) (hp : pre = true) : Con Try.prog 41 args rows v rows' := by
  unfold e41 at h
  split at h
  · cases h; exact con41 _ _ _ _ _ hp
  · cases h
-- SPEC 41
end Go.Proofs.Ytgifjphinkbcaaa

set_option maxRecDepth 100000
set_option maxHeartbeats 1000000
set_option linter.unusedVariables false
namespace Go.Proofs.Ytgifjphinkbcaaa
open Go Go.Ev

/-! ### some -/
noncomputable def c39 : Code := match Try.f39.body with | some c => c | _ => .skip
theorem lok39 : LOK Try.prog Sh (ro 39) (fun _ _ => none) 0 false c39 [] :=
  lok_lo (fun _ _ _ _ _ _ _ h _ => by cases h) c39 [] false (locate_nil _) (by kernel_rfl)
noncomputable def t39 (ra rb rc : Int) (ps : List (List AV)) (x : Int) : Tr ((Int) × (Bool)) :=
  .cn (g20 ra rb rc ps) (.cn (w20_1 ra rb rc ps != 0) (.lf (0, false)) (.cn (decide (w20_0 ra rb rc ps < 1)) (.lf (0, false)) (.cn (decide (x < 0)) (.lf (0, false)) (.cn (decide (w20_0 ra rb rc ps = 0)) (.nn) (.lf (x.tmod (w20_0 ra rb rc ps), true)))))) (.nn)
noncomputable def g39 (ra rb rc : Int) (ps : List (List AV)) (x : Int) : Bool := (t39 ra rb rc ps x).g
noncomputable def w39_0 (ra rb rc : Int) (ps : List (List AV)) (x : Int) : Int := (t39 ra rb rc ps x).val.1
noncomputable def w39_1 (ra rb rc : Int) (ps : List (List AV)) (x : Int) : Bool := (t39 ra rb rc ps x).val.2
theorem eq39 (ra rb rc : Int) (ps : List (List AV)) (x : Int) : evF Try.prog Sh (ro 39) (fun _ _ => none) Try.f39 [.agg [.i .i64 ra, .i .i64 rb, .i .i64 rc, .rs 31 ps], .i .i64 x] = (t39 ra rb rc ps x).opt (fun (x : (Int) × (Bool)) => (.tup [.i .i64 x.1, .b x.2] : AV)) := by kernel_rfl
theorem con39 (ra rb rc : Int) (ps : List (List AV)) (x : Int) (h : g39 ra rb rc ps x = true) : Con Try.prog 39 [.agg [.i .i64 ra, .i .i64 rb, .i .i64 rc, .rs 31 ps], .i .i64 x] [] (.tup [.i .i64 (w39_0 ra rb rc ps x), .b (w39_1 ra rb rc ps x)]) [] :=
  con_of Sh_ok mixed Try.func39 (c := c39) rfl (names 39 _ Try.func39) lok39 ((eq39 ra rb rc ps x).trans (Tr.sound _ _ h))
noncomputable def e39 (args : List AV) (rows : List Blk) : Option (Bool × AV × List Blk) := match args, rows with
  | [.agg [.i .i64 ra, .i .i64 rb, .i .i64 rc, .rs 31 ps], .i .i64 x], [] => some (g39 ra rb rc ps x, .tup [.i .i64 (w39_0 ra rb rc ps x), .b (w39_1 ra rb rc ps x)], [])
  | _, _ => none
theorem e39_ok (args : List AV) (rows : List Blk) (pre : Bool) (v : AV) (rows' : List Blk) (h : e39 args rows = some (pre, v, rows')) (hp : pre = true) : Con Try.prog 39 args rows v rows' := by
  unfold e39 at h
  split at h
  · cases h; exact con39 _ _ _ _ _ hp
  · cases h
-- SPEC 39
end Go.Proofs.Ytgifjphinkbcaaa

set_option maxRecDepth 100000
set_option linter.unusedVariables false
namespace Go.Proofs.Ytgifjphinkbcaaa
open Go Go.Ev

/-! ### ref Even -/
noncomputable def c38 : Code := match Try.f38.body with | some c => c | _ => .skip
noncomputable def lp38a : Code := loopAt c38 [true, true, true, true, false, true, false]
noncomputable def s38a (ra : Int) (rb : Int) (rc : Int) (ps : List (List AV)) (t2 : Int) (t3 : Int) (t6 : Int) (t7 : Int) : St :=
  { t := [(1, .rp [.int .i64, .int .i64, .int .i64, .sl 31] [.i .i64 ra, .i .i64 rb, .i .i64 rc, .rs 31 ps] 0), (2, .i .i64 t2), (3, .i .i64 t3), (6, .i .i64 t6), (7, .i .i64 t7)], m := [], nx := 0, nt := 88 }
structure S38a where
  t6 : Int
  t7 : Int
inductive T38a where
  | x0 (t6 : Int) (t7 : Int)
noncomputable def stp38a (ra : Int) (rb : Int) (rc : Int) (ps : List (List AV)) (t2 : Int) (t3 : Int) (t6 : Int) (t7 : Int) : Lp S38a T38a :=
  cond (decide (t7 ≤ 9)) (cond (ra.tmod 2 == 0) (cond (g70 ra rb rc ps (IntKind.i64.wrap (ra.tdiv 2)) t7) (.go ⟨IntKind.i64.wrap (t6 + w70_0 ra rb rc ps (IntKind.i64.wrap (ra.tdiv 2)) t7), IntKind.i64.wrap (t7 + 1)⟩) (.bad)) (.out (.x0 t6 t7))) (.out (.x0 t6 t7))
noncomputable def o38a_0 (ra : Int) (rb : Int) (rc : Int) (ps : List (List AV)) (t2 : Int) (t3 : Int) (t6 : Int) (t7 : Int) : St :=
  { t := [(1, .rp [.int .i64, .int .i64, .int .i64, .sl 31] [.i .i64 ra, .i .i64 rb, .i .i64 rc, .rs 31 ps] 0), (2, .i .i64 t2), (3, .i .i64 t3), (6, .i .i64 t6), (7, .i .i64 t7)], m := [], nx := 0, nt := 88 }
noncomputable def ou38a (ra : Int) (rb : Int) (rc : Int) (ps : List (List AV)) (t2 : Int) (t3 : Int) : T38a → Ex × St
  | .x0 t6 t7 => (.ext 0, o38a_0 ra rb rc ps t2 t3 t6 t7)
noncomputable def r38a (ra : Int) (rb : Int) (rc : Int) (ps : List (List AV)) (t2 : Int) (t3 : Int) (t6 : Int) (t7 : Int) : Option T38a := run (fun x => stp38a ra rb rc ps t2 t3 x.t6 x.t7) (⟨t6, t7⟩ : S38a)
noncomputable def i38a_0 (ra : Int) (rb : Int) (rc : Int) (ps : List (List AV)) (t2 : Int) (t3 : Int) (t6 : Int) (t7 : Int) : Bool := match r38a ra rb rc ps t2 t3 t6 t7 with
  | some (.x0 _ _) => true
  | _ => false
noncomputable def v38a_0_t6 (ra : Int) (rb : Int) (rc : Int) (ps : List (List AV)) (t2 : Int) (t3 : Int) (t6 : Int) (t7 : Int) : Int := match r38a ra rb rc ps t2 t3 t6 t7 with
  | some (.x0 t6 _) => t6
  | _ => default
noncomputable def v38a_0_t7 (ra : Int) (rb : Int) (rc : Int) (ps : List (List AV)) (t2 : Int) (t3 : Int) (t6 : Int) (t7 : Int) : Int := match r38a ra rb rc ps t2 t3 t6 t7 with
  | some (.x0 _ t7) => t7
  | _ => default
noncomputable def l38a (st : St) : Option (List (Bool × Ex × St)) := match normW Try.prog [(1, none), (2, none), (3, none), (6, none), (7, none)] 0 st with
  | some ([.rp [.int .i64, .int .i64, .int .i64, .sl 31] [.i .i64 ra, .i .i64 rb, .i .i64 rc, .rs 31 ps] 0, .i .i64 t2, .i .i64 t3, .i .i64 t6, .i .i64 t7], [], 0, 88) => some [(i38a_0 ra rb rc ps t2 t3 t6 t7, .ext 0, o38a_0 ra rb rc ps t2 t3 (v38a_0_t6 ra rb rc ps t2 t3 t6 t7) (v38a_0_t7 ra rb rc ps t2 t3 t6 t7))]
  | _ => none
noncomputable def lp38b : Code := loopAt c38 [true, true, true, true, true, false, true, false]
noncomputable def s38b (ra : Int) (rb : Int) (rc : Int) (ps : List (List AV)) (t2 : Int) (t3 : Int) (t6 : Int) (t8 : Int) : St :=
  { t := [(1, .rp [.int .i64, .int .i64, .int .i64, .sl 31] [.i .i64 ra, .i .i64 rb, .i .i64 rc, .rs 31 ps] 0), (2, .i .i64 t2), (3, .i .i64 t3), (6, .i .i64 t6), (8, .i .i64 t8)], m := [], nx := 0, nt := 88 }
structure S38b where
  t6 : Int
  t8 : Int
inductive T38b where
  | x0 (t6 : Int) (t8 : Int)
noncomputable def stp38b (ra : Int) (rb : Int) (rc : Int) (ps : List (List AV)) (t2 : Int) (t3 : Int) (t6 : Int) (t8 : Int) : Lp S38b T38b :=
  cond (decide (t8 < (↑ps.length : Int))) (cond (inb t8 ps.length) (cond (fI (ps.getD t8.toNat []) 4 == t8) (cond (decide (fI (ps.getD t8.toNat []) 1 ≤ ra)) (cond ((IntKind.i64.wrap (ra - fI (ps.getD t8.toNat []) 1)).tmod 2 == 0) (cond (g70 ra rb rc ps (IntKind.i64.wrap ((IntKind.i64.wrap (ra - fI (ps.getD t8.toNat []) 1)).tdiv 2)) (fI (ps.getD t8.toNat []) 2)) (.go ⟨IntKind.i64.wrap (t6 + w70_0 ra rb rc ps (IntKind.i64.wrap ((IntKind.i64.wrap (ra - fI (ps.getD t8.toNat []) 1)).tdiv 2)) (fI (ps.getD t8.toNat []) 2)), IntKind.i64.wrap (t8 + 1)⟩) (.bad)) (.go ⟨t6, IntKind.i64.wrap (t8 + 1)⟩)) (.go ⟨t6, IntKind.i64.wrap (t8 + 1)⟩)) (.go ⟨t6, IntKind.i64.wrap (t8 + 1)⟩)) (.bad)) (.out (.x0 t6 t8))
noncomputable def o38b_0 (ra : Int) (rb : Int) (rc : Int) (ps : List (List AV)) (t2 : Int) (t3 : Int) (t6 : Int) (t8 : Int) : St :=
  { t := [(1, .rp [.int .i64, .int .i64, .int .i64, .sl 31] [.i .i64 ra, .i .i64 rb, .i .i64 rc, .rs 31 ps] 0), (2, .i .i64 t2), (3, .i .i64 t3), (6, .i .i64 t6), (8, .i .i64 t8)], m := [], nx := 0, nt := 88 }
noncomputable def ou38b (ra : Int) (rb : Int) (rc : Int) (ps : List (List AV)) (t2 : Int) (t3 : Int) : T38b → Ex × St
  | .x0 t6 t8 => (.ext 2, o38b_0 ra rb rc ps t2 t3 t6 t8)
noncomputable def r38b (ra : Int) (rb : Int) (rc : Int) (ps : List (List AV)) (t2 : Int) (t3 : Int) (t6 : Int) (t8 : Int) : Option T38b := run (fun x => stp38b ra rb rc ps t2 t3 x.t6 x.t8) (⟨t6, t8⟩ : S38b)
noncomputable def i38b_0 (ra : Int) (rb : Int) (rc : Int) (ps : List (List AV)) (t2 : Int) (t3 : Int) (t6 : Int) (t8 : Int) : Bool := match r38b ra rb rc ps t2 t3 t6 t8 with
  | some (.x0 _ _) => true
  | _ => false
noncomputable def v38b_0_t6 (ra : Int) (rb : Int) (rc : Int) (ps : List (List AV)) (t2 : Int) (t3 : Int) (t6 : Int) (t8 : Int) : Int := match r38b ra rb rc ps t2 t3 t6 t8 with
  | some (.x0 t6 _) => t6
  | _ => default
noncomputable def v38b_0_t8 (ra : Int) (rb : Int) (rc : Int) (ps : List (List AV)) (t2 : Int) (t3 : Int) (t6 : Int) (t8 : Int) : Int := match r38b ra rb rc ps t2 t3 t6 t8 with
  | some (.x0 _ t8) => t8
  | _ => default
noncomputable def l38b (st : St) : Option (List (Bool × Ex × St)) := match normW Try.prog [(1, none), (2, none), (3, none), (6, none), (8, none)] 0 st with
  | some ([.rp [.int .i64, .int .i64, .int .i64, .sl 31] [.i .i64 ra, .i .i64 rb, .i .i64 rc, .rs 31 ps] 0, .i .i64 t2, .i .i64 t3, .i .i64 t6, .i .i64 t8], [], 0, 88) => some [(i38b_0 ra rb rc ps t2 t3 t6 t8, .ext 2, o38b_0 ra rb rc ps t2 t3 (v38b_0_t6 ra rb rc ps t2 t3 t6 t8) (v38b_0_t8 ra rb rc ps t2 t3 t6 t8))]
  | _ => none
noncomputable def L38 : LSpec := fun p st => match p with
  | [false, true, false, true, true, true, true] => l38a st
  | [false, true, false, true, true, true, true, true] => l38b st
  | _ => none
theorem is38a_0 (ra : Int) (rb : Int) (rc : Int) (ps : List (List AV)) (t2 : Int) (t3 : Int) (t6 : Int) (t7 : Int) (h : i38a_0 ra rb rc ps t2 t3 t6 t7 = true) : r38a ra rb rc ps t2 t3 t6 t7 = some (.x0 (v38a_0_t6 ra rb rc ps t2 t3 t6 t7) (v38a_0_t7 ra rb rc ps t2 t3 t6 t7)) := by
  unfold i38a_0 at h
  unfold v38a_0_t6 v38a_0_t7
  generalize r38a ra rb rc ps t2 t3 t6 t7 = r at h ⊢
  rcases r with _ | y
  · cases h
  · cases y <;> first | rfl | cases h
theorem round38a (ra : Int) (rb : Int) (rc : Int) (ps : List (List AV)) (t2 : Int) (t3 : Int) (t6 : Int) (t7 : Int) : round Try.prog Sh (ro 38) L38 lp38a [false, true, false, true, true, true, true] [(1, none), (2, none), (3, none), (6, none), (7, none)] 0 (s38a ra rb rc ps t2 t3 t6 t7) =
    cond (decide (t7 ≤ 9)) (cond (ra.tmod 2 == 0) (cond (g70 ra rb rc ps (IntKind.i64.wrap (ra.tdiv 2)) t7) (some (.nrm, s38a ra rb rc ps t2 t3 (IntKind.i64.wrap (t6 + w70_0 ra rb rc ps (IntKind.i64.wrap (ra.tdiv 2)) t7)) (IntKind.i64.wrap (t7 + 1)))) (none)) (some (.ext 0, o38a_0 ra rb rc ps t2 t3 t6 t7))) (some (.ext 0, o38a_0 ra rb rc ps t2 t3 t6 t7)) := by kernel_rfl
theorem rnd38a (ra : Int) (rb : Int) (rc : Int) (ps : List (List AV)) (t2 : Int) (t3 : Int) (x : S38a) : round Try.prog Sh (ro 38) L38 lp38a [false, true, false, true, true, true, true] [(1, none), (2, none), (3, none), (6, none), (7, none)] 0 ((fun x => s38a ra rb rc ps t2 t3 x.t6 x.t7) x) = toR (fun x => s38a ra rb rc ps t2 t3 x.t6 x.t7) (ou38a ra rb rc ps t2 t3) (stp38a ra rb rc ps t2 t3 x.t6 x.t7) := by
  refine (round38a _ _ _ _ _ _ _ _ ).trans ?_
  unfold stp38a
  simp only [toR_cond]
  rfl
theorem lok38a {st : St} {outs : List (Bool × Ex × St)} {e : Ex} {s : St} (hl : l38a st = some outs) (hch : Chosen outs e s) :
    ∃ keep nb, 0 ≤ nb ∧ LB Try.prog Sh (ro 38) L38 lp38a [false, true, false, true, true, true, true] keep nb st e s := by
  unfold l38a at hl
  split at hl
  · rename_i ra rb rc ps t2 t3 t6 t7 hno
    cases hl
    have hno := normW_norm hno
    refine ⟨_, _, ?_, .enter hno ?_⟩
    · decide
    have main := fun y h => LB_run (x := (⟨t6, t7⟩ : S38a)) (y := y) (nb := 0) (fun y => by cases y <;> simp [ou38a]) (rnd38a ra rb rc ps t2 t3) h
    obtain ⟨x, hx, hg, rfl, rfl⟩ := chosen_any hch
    simp only [List.mem_cons, List.not_mem_nil, or_false] at hx
    subst hx
    exact main _ (is38a_0 ra rb rc ps t2 t3 t6 t7 hg)
  · cases hl
theorem is38b_0 (ra : Int) (rb : Int) (rc : Int) (ps : List (List AV)) (t2 : Int) (t3 : Int) (t6 : Int) (t8 : Int) (h : i38b_0 ra rb rc ps t2 t3 t6 t8 = true) : r38b ra rb rc ps t2 t3 t6 t8 = some (.x0 (v38b_0_t6 ra rb rc ps t2 t3 t6 t8) (v38b_0_t8 ra rb rc ps t2 t3 t6 t8)) := by
  unfold i38b_0 at h
  unfold v38b_0_t6 v38b_0_t8
  generalize r38b ra rb rc ps t2 t3 t6 t8 = r at h ⊢
  rcases r with _ | y
  · cases h
  · cases y <;> first | rfl | cases h
theorem round38b (ra : Int) (rb : Int) (rc : Int) (ps : List (List AV)) (t2 : Int) (t3 : Int) (t6 : Int) (t8 : Int) : round Try.prog Sh (ro 38) L38 lp38b [false, true, false, true, true, true, true, true] [(1, none), (2, none), (3, none), (6, none), (8, none)] 0 (s38b ra rb rc ps t2 t3 t6 t8) =
    cond (decide (t8 < (↑ps.length : Int))) (cond (inb t8 ps.length) (cond (fI (ps.getD t8.toNat []) 4 == t8) (cond (decide (fI (ps.getD t8.toNat []) 1 ≤ ra)) (cond ((IntKind.i64.wrap (ra - fI (ps.getD t8.toNat []) 1)).tmod 2 == 0) (cond (g70 ra rb rc ps (IntKind.i64.wrap ((IntKind.i64.wrap (ra - fI (ps.getD t8.toNat []) 1)).tdiv 2)) (fI (ps.getD t8.toNat []) 2)) (some (.nrm, s38b ra rb rc ps t2 t3 (IntKind.i64.wrap (t6 + w70_0 ra rb rc ps (IntKind.i64.wrap ((IntKind.i64.wrap (ra - fI (ps.getD t8.toNat []) 1)).tdiv 2)) (fI (ps.getD t8.toNat []) 2))) (IntKind.i64.wrap (t8 + 1)))) (none)) (some (.nrm, s38b ra rb rc ps t2 t3 t6 (IntKind.i64.wrap (t8 + 1))))) (some (.nrm, s38b ra rb rc ps t2 t3 t6 (IntKind.i64.wrap (t8 + 1))))) (some (.nrm, s38b ra rb rc ps t2 t3 t6 (IntKind.i64.wrap (t8 + 1))))) (none)) (some (.ext 2, o38b_0 ra rb rc ps t2 t3 t6 t8)) := by kernel_rfl
theorem rnd38b (ra : Int) (rb : Int) (rc : Int) (ps : List (List AV)) (t2 : Int) (t3 : Int) (x : S38b) : round Try.prog Sh (ro 38) L38 lp38b [false, true, false, true, true, true, true, true] [(1, none), (2, none), (3, none), (6, none), (8, none)] 0 ((fun x => s38b ra rb rc ps t2 t3 x.t6 x.t8) x) = toR (fun x => s38b ra rb rc ps t2 t3 x.t6 x.t8) (ou38b ra rb rc ps t2 t3) (stp38b ra rb rc ps t2 t3 x.t6 x.t8) := by
  refine (round38b _ _ _ _ _ _ _ _ ).trans ?_
  unfold stp38b
  simp only [toR_cond]
  rfl
theorem lok38b {st : St} {outs : List (Bool × Ex × St)} {e : Ex} {s : St} (hl : l38b st = some outs) (hch : Chosen outs e s) :
    ∃ keep nb, 0 ≤ nb ∧ LB Try.prog Sh (ro 38) L38 lp38b [false, true, false, true, true, true, true, true] keep nb st e s := by
  unfold l38b at hl
  split at hl
  · rename_i ra rb rc ps t2 t3 t6 t8 hno
    cases hl
    have hno := normW_norm hno
    refine ⟨_, _, ?_, .enter hno ?_⟩
    · decide
    have main := fun y h => LB_run (x := (⟨t6, t8⟩ : S38b)) (y := y) (nb := 0) (fun y => by cases y <;> simp [ou38b]) (rnd38b ra rb rc ps t2 t3) h
    obtain ⟨x, hx, hg, rfl, rfl⟩ := chosen_any hch
    simp only [List.mem_cons, List.not_mem_nil, or_false] at hx
    subst hx
    exact main _ (is38b_0 ra rb rc ps t2 t3 t6 t8 hg)
  · cases hl
theorem L38_ok (q : Pl) (c : Code) (hq : locate c38 q.reverse = some (.loop c)) (st : St) (outs : List (Bool × Ex × St)) (e : Ex) (s : St) (hl : L38 q st = some outs) (hch : Chosen outs e s) :
    ∃ keep nb, 0 ≤ nb ∧ LB Try.prog Sh (ro 38) L38 c q keep nb st e s := by
  unfold L38 at hl
  split at hl
  · have : locate c38 ([false, true, false, true, true, true, true] : Pl).reverse = some (.loop lp38a) := by kernel_rfl
    rw [this] at hq
    cases hq
    exact lok38a hl hch
  · have : locate c38 ([false, true, false, true, true, true, true, true] : Pl).reverse = some (.loop lp38b) := by kernel_rfl
    rw [this] at hq
    cases hq
    exact lok38b hl hch
  · cases hl
theorem lok38 : LOK Try.prog Sh (ro 38) L38 0 false c38 [] :=
  lok_lo L38_ok c38 [] false (locate_nil _) (by kernel_rfl)
noncomputable def t38 (ra rb rc : Int) (ps : List (List AV)) : Tr ((Int) × (Int)) :=
  .cn (g67 ra rb rc ps) (.cn (w67_1 ra rb rc ps != 0) (.lf (0, w67_1 ra rb rc ps)) (.cn (rb != rc) (.lf (0, w67_1 ra rb rc ps)) (.cn (i38a_0 ra rb rc ps 0 0 0 0) (.cn (i38b_0 ra rb rc ps 0 0 (v38a_0_t6 ra rb rc ps 0 0 0 0) 0) (.lf (v38b_0_t6 ra rb rc ps 0 0 (v38a_0_t6 ra rb rc ps 0 0 0 0) 0, 0)) (.nn)) (.nn)))) (.nn)
noncomputable def g38 (ra rb rc : Int) (ps : List (List AV)) : Bool := (t38 ra rb rc ps).g
noncomputable def w38_0 (ra rb rc : Int) (ps : List (List AV)) : Int := (t38 ra rb rc ps).val.1
noncomputable def w38_1 (ra rb rc : Int) (ps : List (List AV)) : Int := (t38 ra rb rc ps).val.2
theorem eq38 (ra rb rc : Int) (ps : List (List AV)) : evF Try.prog Sh (ro 38) L38 Try.f38 [.agg [.i .i64 ra, .i .i64 rb, .i .i64 rc, .rs 31 ps]] = (t38 ra rb rc ps).opt (fun (x : (Int) × (Int)) => (.tup [.i .i64 x.1, .i .i64 x.2] : AV)) := by kernel_rfl
theorem con38 (ra rb rc : Int) (ps : List (List AV)) (h : g38 ra rb rc ps = true) : Con Try.prog 38 [.agg [.i .i64 ra, .i .i64 rb, .i .i64 rc, .rs 31 ps]] [] (.tup [.i .i64 (w38_0 ra rb rc ps), .i .i64 (w38_1 ra rb rc ps)]) [] :=
  con_of Sh_ok mixed Try.func38 (c := c38) rfl (names 38 _ Try.func38) lok38 ((eq38 ra rb rc ps).trans (Tr.sound _ _ h))
noncomputable def e38 (args : List AV) (rows : List Blk) : Option (Bool × AV × List Blk) := match args, rows with
  | [.agg [.i .i64 ra, .i .i64 rb, .i .i64 rc, .rs 31 ps]], [] => some (g38 ra rb rc ps, .tup [.i .i64 (w38_0 ra rb rc ps), .i .i64 (w38_1 ra rb rc ps)], [])
  | _, _ => none
theorem e38_ok (args : List AV) (rows : List Blk) (pre : Bool) (v : AV) (rows' : List Blk) (h : e38 args rows = some (pre, v, rows')) (hp : pre = true) : Con Try.prog 38 args rows v rows' := by
  unfold e38 at h
  split at h
  · cases h; exact con38 _ _ _ _ hp
  · cases h
-- SPEC 38
end Go.Proofs.Ytgifjphinkbcaaa

set_option maxRecDepth 100000
set_option linter.unusedVariables false
namespace Go.Proofs.Ytgifjphinkbcaaa
open Go Go.Ev
noncomputable def Si : Ev.Spec := insS 38 e38 (insS 39 e39 (insS 41 e41 (insS 40 e40 (insS 43 e43 (insS 42 e42 (insS 35 e35 (insS 34 e34 (insS 32 e32 (insS 30 e30 (insS 36 e36 (Sh)))))))))))
theorem Si_ok : SpecOK Try.prog Si := insS_ok e38_ok (insS_ok e39_ok (insS_ok e41_ok (insS_ok e40_ok (insS_ok e43_ok (insS_ok e42_ok (insS_ok e35_ok (insS_ok e34_ok (insS_ok e32_ok (insS_ok e30_ok (insS_ok e36_ok (Sh_ok)))))))))))
end Go.Proofs.Ytgifjphinkbcaaa

set_option maxRecDepth 100000
set_option linter.unusedVariables false
namespace Go.Proofs.Ytgifjphinkbcaaa
open Go Go.Ev

/-! ### Wide -/
noncomputable def c21 : Code := match Try.f21.body with | some c => c | _ => .skip
noncomputable def lp21a : Code := loopAt c21 [true, true, false, true, false]
noncomputable def s21a (da : Int) (db : Int) (cs : List (List AV)) (t2 : Bool) (t3 : Int) (t4 : Int) : St :=
  { t := [(1, .rp [.int .i64, .int .i64, .sl 64] [.i .i64 da, .i .i64 db, .rs 64 cs] 0), (2, .b t2), (3, .i .i64 t3), (4, .i .i64 t4)], m := [], nx := 0, nt := 38 }
structure S21a where
  t3 : Int
  t4 : Int
inductive T21a where
  | x0 (t3 : Int) (t4 : Int)
noncomputable def stp21a (da : Int) (db : Int) (cs : List (List AV)) (t2 : Bool) (t3 : Int) (t4 : Int) : Lp S21a T21a :=
  cond (decide (t4 < (↑cs.length : Int))) (cond (decide (t4 ≤ 30)) (cond (inb t4 cs.length) (.go ⟨IntKind.i64.wrap (t3 + bmax 0 (bmin (fI (cs.getD t4.toNat []) 1) 100)), IntKind.i64.wrap (t4 + 1)⟩) (.bad)) (.out (.x0 t3 t4))) (.out (.x0 t3 t4))
noncomputable def o21a_0 (da : Int) (db : Int) (cs : List (List AV)) (t2 : Bool) (t3 : Int) (t4 : Int) : St :=
  { t := [(1, .rp [.int .i64, .int .i64, .sl 64] [.i .i64 da, .i .i64 db, .rs 64 cs] 0), (2, .b t2), (3, .i .i64 t3), (4, .i .i64 t4)], m := [], nx := 0, nt := 38 }
noncomputable def ou21a (da : Int) (db : Int) (cs : List (List AV)) (t2 : Bool) : T21a → Ex × St
  | .x0 t3 t4 => (.ext 0, o21a_0 da db cs t2 t3 t4)
noncomputable def r21a (da : Int) (db : Int) (cs : List (List AV)) (t2 : Bool) (t3 : Int) (t4 : Int) : Option T21a := run (fun x => stp21a da db cs t2 x.t3 x.t4) (⟨t3, t4⟩ : S21a)
noncomputable def i21a_0 (da : Int) (db : Int) (cs : List (List AV)) (t2 : Bool) (t3 : Int) (t4 : Int) : Bool := match r21a da db cs t2 t3 t4 with
  | some (.x0 _ _) => true
  | _ => false
noncomputable def v21a_0_t3 (da : Int) (db : Int) (cs : List (List AV)) (t2 : Bool) (t3 : Int) (t4 : Int) : Int := match r21a da db cs t2 t3 t4 with
  | some (.x0 t3 _) => t3
  | _ => default
noncomputable def v21a_0_t4 (da : Int) (db : Int) (cs : List (List AV)) (t2 : Bool) (t3 : Int) (t4 : Int) : Int := match r21a da db cs t2 t3 t4 with
  | some (.x0 _ t4) => t4
  | _ => default
noncomputable def l21a (st : St) : Option (List (Bool × Ex × St)) := match normW Try.prog [(1, none), (2, none), (3, none), (4, none)] 0 st with
  | some ([.rp [.int .i64, .int .i64, .sl 64] [.i .i64 da, .i .i64 db, .rs 64 cs] 0, .b t2, .i .i64 t3, .i .i64 t4], [], 0, 38) => some [(i21a_0 da db cs t2 t3 t4, .ext 0, o21a_0 da db cs t2 (v21a_0_t3 da db cs t2 t3 t4) (v21a_0_t4 da db cs t2 t3 t4))]
  | _ => none
noncomputable def L21 : LSpec := fun p st => match p with
  | [false, true, false, true, true] => l21a st
  | _ => none
theorem is21a_0 (da : Int) (db : Int) (cs : List (List AV)) (t2 : Bool) (t3 : Int) (t4 : Int) (h : i21a_0 da db cs t2 t3 t4 = true) : r21a da db cs t2 t3 t4 = some (.x0 (v21a_0_t3 da db cs t2 t3 t4) (v21a_0_t4 da db cs t2 t3 t4)) := by
  unfold i21a_0 at h
  unfold v21a_0_t3 v21a_0_t4
  generalize r21a da db cs t2 t3 t4 = r at h ⊢
  rcases r with _ | y
  · cases h
  · cases y <;> first | rfl | cases h
theorem round21a (da : Int) (db : Int) (cs : List (List AV)) (t2 : Bool) (t3 : Int) (t4 : Int) : round Try.prog Si (ro 21) L21 lp21a [false, true, false, true, true] [(1, none), (2, none), (3, none), (4, none)] 0 (s21a da db cs t2 t3 t4) =
    cond (decide (t4 < (↑cs.length : Int))) (cond (decide (t4 ≤ 30)) (cond (inb t4 cs.length) (some (.nrm, s21a da db cs t2 (IntKind.i64.wrap (t3 + bmax 0 (bmin (fI (cs.getD t4.toNat []) 1) 100))) (IntKind.i64.wrap (t4 + 1)))) (none)) (some (.ext 0, o21a_0 da db cs t2 t3 t4))) (some (.ext 0, o21a_0 da db cs t2 t3 t4)) := by kernel_rfl
theorem rnd21a (da : Int) (db : Int) (cs : List (List AV)) (t2 : Bool) (x : S21a) : round Try.prog Si (ro 21) L21 lp21a [false, true, false, true, true] [(1, none), (2, none), (3, none), (4, none)] 0 ((fun x => s21a da db cs t2 x.t3 x.t4) x) = toR (fun x => s21a da db cs t2 x.t3 x.t4) (ou21a da db cs t2) (stp21a da db cs t2 x.t3 x.t4) := by
  refine (round21a _ _ _ _ _ _ ).trans ?_
  unfold stp21a
  simp only [toR_cond]
  rfl
theorem lok21a {st : St} {outs : List (Bool × Ex × St)} {e : Ex} {s : St} (hl : l21a st = some outs) (hch : Chosen outs e s) :
    ∃ keep nb, 0 ≤ nb ∧ LB Try.prog Si (ro 21) L21 lp21a [false, true, false, true, true] keep nb st e s := by
  unfold l21a at hl
  split at hl
  · rename_i da db cs t2 t3 t4 hno
    cases hl
    have hno := normW_norm hno
    refine ⟨_, _, ?_, .enter hno ?_⟩
    · decide
    have main := fun y h => LB_run (x := (⟨t3, t4⟩ : S21a)) (y := y) (nb := 0) (fun y => by cases y <;> simp [ou21a]) (rnd21a da db cs t2) h
    obtain ⟨x, hx, hg, rfl, rfl⟩ := chosen_any hch
    simp only [List.mem_cons, List.not_mem_nil, or_false] at hx
    subst hx
    exact main _ (is21a_0 da db cs t2 t3 t4 hg)
  · cases hl
theorem L21_ok (q : Pl) (c : Code) (hq : locate c21 q.reverse = some (.loop c)) (st : St) (outs : List (Bool × Ex × St)) (e : Ex) (s : St) (hl : L21 q st = some outs) (hch : Chosen outs e s) :
    ∃ keep nb, 0 ≤ nb ∧ LB Try.prog Si (ro 21) L21 c q keep nb st e s := by
  unfold L21 at hl
  split at hl
  · have : locate c21 ([false, true, false, true, true] : Pl).reverse = some (.loop lp21a) := by kernel_rfl
    rw [this] at hq
    cases hq
    exact lok21a hl hch
  · cases hl
theorem lok21 : LOK Try.prog Si (ro 21) L21 0 false c21 [] :=
  lok_lo L21_ok c21 [] false (locate_nil _) (by kernel_rfl)
noncomputable def t21 (da db : Int) (cs : List (List AV)) : Tr ((Bool)) :=
  .cn (i21a_0 da db cs false 0 0) (.cn (decide ((↑cs.length : Int) > 30)) (.lf (true)) (.cn (decide (v21a_0_t3 da db cs false 0 0 > 9)) (.lf (decide (v21a_0_t3 da db cs false 0 0 ≤ 12))) (.lf (false)))) (.nn)
noncomputable def g21 (da db : Int) (cs : List (List AV)) : Bool := (t21 da db cs).g
noncomputable def w21_0 (da db : Int) (cs : List (List AV)) : Bool := (t21 da db cs).val
theorem eq21 (da db : Int) (cs : List (List AV)) : evF Try.prog Si (ro 21) L21 Try.f21 [.agg [.i .i64 da, .i .i64 db, .rs 64 cs]] = (t21 da db cs).opt (fun (x : (Bool)) => (.b x : AV)) := by kernel_rfl
theorem con21 (da db : Int) (cs : List (List AV)) (h : g21 da db cs = true) : Con Try.prog 21 [.agg [.i .i64 da, .i .i64 db, .rs 64 cs]] [] (.b (w21_0 da db cs)) [] :=
  con_of Si_ok mixed Try.func21 (c := c21) rfl (names 21 _ Try.func21) lok21 ((eq21 da db cs).trans (Tr.sound _ _ h))
noncomputable def e21 (args : List AV) (rows : List Blk) : Option (Bool × AV × List Blk) := match args, rows with
  | [.agg [.i .i64 da, .i .i64 db, .rs 64 cs]], [] => some (g21 da db cs, .b (w21_0 da db cs), [])
  | _, _ => none
theorem e21_ok (args : List AV) (rows : List Blk) (pre : Bool) (v : AV) (rows' : List Blk) (h : e21 args rows = some (pre, v, rows')) (hp : pre = true) : Con Try.prog 21 args rows v rows' := by
  unfold e21 at h
  split at h
  · cases h; exact con21 _ _ _ hp
  · cases h
-- SPEC 21
end Go.Proofs.Ytgifjphinkbcaaa

set_option maxRecDepth 100000
set_option linter.unusedVariables false
namespace Go.Proofs.Ytgifjphinkbcaaa
open Go Go.Ev

/-! ### single -/
noncomputable def c79 : Code := match Try.f79.body with | some c => c | _ => .skip
noncomputable def lp79a : Code := loopAt c79 [true, true, false, true, false]
noncomputable def s79a (da : Int) (db : Int) (cs : List (List AV)) (t3 : List (List AV)) (t4 : Int) : St :=
  { t := [(1, .rp [.int .i64, .int .i64, .sl 64] [.i .i64 da, .i .i64 db, .rs 64 cs] 0), (2, .nl), (3, .gv 0 3 t3), (4, .i .i64 t4)], m := [(0, .fr 3)], nx := 1, nt := 28 }
noncomputable def lp79aa : Code := loopAt c79 [true, true, false, true, false, false, true, false, false, true, false]
noncomputable def s79aa (da : Int) (db : Int) (cs : List (List AV)) (t3 : List (List AV)) (t4 : Int) (t5 : Int) : St :=
  { t := [(1, .rp [.int .i64, .int .i64, .sl 64] [.i .i64 da, .i .i64 db, .rs 64 cs] 0), (2, .nl), (3, .gv 0 3 t3), (4, .i .i64 t4), (5, .i .i64 t5)], m := [(0, .fr 3)], nx := 1, nt := 28 }
structure S79aa where
  t3 : List (List AV)
  t5 : Int
inductive T79aa where
  | x0 (t3 : List (List AV)) (t5 : Int)
noncomputable def stp79aa (da : Int) (db : Int) (cs : List (List AV)) (t4 : Int) (t3 : List (List AV)) (t5 : Int) : Lp S79aa T79aa :=
  cond (inb t4 cs.length) (cond (decide (t5 < fI (cs.getD t4.toNat []) 1)) (cond ((t3.length + [[AV.i IntKind.i64 t4]].length).ble 9223372036854775807 && true) (cond (((t3.length + [[AV.i IntKind.i64 t4]].length) * 8).ble 140737488355328) (.go ⟨t3 ++ [[AV.i IntKind.i64 t4]], IntKind.i64.wrap (t5 + 1)⟩) (.bad)) (.bad)) (.out (.x0 t3 t5))) (.bad)
noncomputable def o79aa_0 (da : Int) (db : Int) (cs : List (List AV)) (t4 : Int) (t3 : List (List AV)) (t5 : Int) : St :=
  { t := [(1, .rp [.int .i64, .int .i64, .sl 64] [.i .i64 da, .i .i64 db, .rs 64 cs] 0), (2, .nl), (3, .gv 0 3 t3), (4, .i .i64 t4), (5, .i .i64 t5)], m := [(0, .fr 3)], nx := 1, nt := 28 }
noncomputable def ou79aa (da : Int) (db : Int) (cs : List (List AV)) (t4 : Int) : T79aa → Ex × St
  | .x0 t3 t5 => (.ext 2, o79aa_0 da db cs t4 t3 t5)
noncomputable def r79aa (da : Int) (db : Int) (cs : List (List AV)) (t4 : Int) (t3 : List (List AV)) (t5 : Int) : Option T79aa := run (fun x => stp79aa da db cs t4 x.t3 x.t5) (⟨t3, t5⟩ : S79aa)
noncomputable def i79aa_0 (da : Int) (db : Int) (cs : List (List AV)) (t4 : Int) (t3 : List (List AV)) (t5 : Int) : Bool := match r79aa da db cs t4 t3 t5 with
  | some (.x0 _ _) => true
  | _ => false
noncomputable def v79aa_0_t3 (da : Int) (db : Int) (cs : List (List AV)) (t4 : Int) (t3 : List (List AV)) (t5 : Int) : List (List AV) := match r79aa da db cs t4 t3 t5 with
  | some (.x0 t3 _) => t3
  | _ => default
noncomputable def v79aa_0_t5 (da : Int) (db : Int) (cs : List (List AV)) (t4 : Int) (t3 : List (List AV)) (t5 : Int) : Int := match r79aa da db cs t4 t3 t5 with
  | some (.x0 _ t5) => t5
  | _ => default
noncomputable def l79aa (st : St) : Option (List (Bool × Ex × St)) := match normW Try.prog [(1, none), (2, none), (3, some 3), (4, none), (5, none)] 0 st with
  | some ([.rp [.int .i64, .int .i64, .sl 64] [.i .i64 da, .i .i64 db, .rs 64 cs] 0, .nl, .gv 0 3 t3, .i .i64 t4, .i .i64 t5], [(0, .fr 3)], 1, 28) => some [(i79aa_0 da db cs t4 t3 t5, .ext 2, o79aa_0 da db cs t4 (v79aa_0_t3 da db cs t4 t3 t5) (v79aa_0_t5 da db cs t4 t3 t5))]
  | _ => none
structure S79a where
  t3 : List (List AV)
  t4 : Int
inductive T79a where
  | x0 (t3 : List (List AV)) (t4 : Int)
noncomputable def stp79a (da : Int) (db : Int) (cs : List (List AV)) (t3 : List (List AV)) (t4 : Int) : Lp S79a T79a :=
  cond (decide (t4 < (↑cs.length : Int))) (cond (i79aa_0 da db cs t4 t3 0) (.go ⟨v79aa_0_t3 da db cs t4 t3 0, IntKind.i64.wrap (t4 + 1)⟩) (.bad)) (.out (.x0 t3 t4))
noncomputable def o79a_0 (da : Int) (db : Int) (cs : List (List AV)) (t3 : List (List AV)) (t4 : Int) : St :=
  { t := [(1, .rp [.int .i64, .int .i64, .sl 64] [.i .i64 da, .i .i64 db, .rs 64 cs] 0), (2, .nl), (3, .gv 0 3 t3), (4, .i .i64 t4)], m := [(0, .fr 3)], nx := 1, nt := 28 }
noncomputable def ou79a (da : Int) (db : Int) (cs : List (List AV)) : T79a → Ex × St
  | .x0 t3 t4 => (.ext 0, o79a_0 da db cs t3 t4)
noncomputable def r79a (da : Int) (db : Int) (cs : List (List AV)) (t3 : List (List AV)) (t4 : Int) : Option T79a := run (fun x => stp79a da db cs x.t3 x.t4) (⟨t3, t4⟩ : S79a)
noncomputable def i79a_0 (da : Int) (db : Int) (cs : List (List AV)) (t3 : List (List AV)) (t4 : Int) : Bool := match r79a da db cs t3 t4 with
  | some (.x0 _ _) => true
  | _ => false
noncomputable def v79a_0_t3 (da : Int) (db : Int) (cs : List (List AV)) (t3 : List (List AV)) (t4 : Int) : List (List AV) := match r79a da db cs t3 t4 with
  | some (.x0 t3 _) => t3
  | _ => default
noncomputable def v79a_0_t4 (da : Int) (db : Int) (cs : List (List AV)) (t3 : List (List AV)) (t4 : Int) : Int := match r79a da db cs t3 t4 with
  | some (.x0 _ t4) => t4
  | _ => default
noncomputable def l79a (st : St) : Option (List (Bool × Ex × St)) := match normW Try.prog [(1, none), (2, none), (3, some 3), (4, none)] 0 st with
  | some ([.rp [.int .i64, .int .i64, .sl 64] [.i .i64 da, .i .i64 db, .rs 64 cs] 0, .nl, .gv 0 3 t3, .i .i64 t4], [(0, .fr 3)], 1, 28) => some [(i79a_0 da db cs t3 t4, .ext 0, o79a_0 da db cs (v79a_0_t3 da db cs t3 t4) (v79a_0_t4 da db cs t3 t4))]
  | _ => none
noncomputable def L79 : LSpec := fun p st => match p with
  | [false, true, false, false, true, false, false, true, false, true, true] => l79aa st
  | [false, true, false, true, true] => l79a st
  | _ => none
theorem is79aa_0 (da : Int) (db : Int) (cs : List (List AV)) (t4 : Int) (t3 : List (List AV)) (t5 : Int) (h : i79aa_0 da db cs t4 t3 t5 = true) : r79aa da db cs t4 t3 t5 = some (.x0 (v79aa_0_t3 da db cs t4 t3 t5) (v79aa_0_t5 da db cs t4 t3 t5)) := by
  unfold i79aa_0 at h
  unfold v79aa_0_t3 v79aa_0_t5
  generalize r79aa da db cs t4 t3 t5 = r at h ⊢
  rcases r with _ | y
  · cases h
  · cases y <;> first | rfl | cases h
theorem round79aa (da : Int) (db : Int) (cs : List (List AV)) (t3 : List (List AV)) (t4 : Int) (t5 : Int) : round Try.prog Si (ro 79) L79 lp79aa [false, true, false, false, true, false, false, true, false, true, true] [(1, none), (2, none), (3, some 3), (4, none), (5, none)] 0 (s79aa da db cs t3 t4 t5) =
    cond (inb t4 cs.length) (cond (decide (t5 < fI (cs.getD t4.toNat []) 1)) (cond ((t3.length + [[AV.i IntKind.i64 t4]].length).ble 9223372036854775807 && true) (cond (((t3.length + [[AV.i IntKind.i64 t4]].length) * 8).ble 140737488355328) (some (.nrm, s79aa da db cs (t3 ++ [[AV.i IntKind.i64 t4]]) t4 (IntKind.i64.wrap (t5 + 1)))) (none)) (none)) (some (.ext 2, o79aa_0 da db cs t4 t3 t5))) (none) := by kernel_rfl
theorem rnd79aa (da : Int) (db : Int) (cs : List (List AV)) (t4 : Int) (x : S79aa) : round Try.prog Si (ro 79) L79 lp79aa [false, true, false, false, true, false, false, true, false, true, true] [(1, none), (2, none), (3, some 3), (4, none), (5, none)] 0 ((fun x => s79aa da db cs x.t3 t4 x.t5) x) = toR (fun x => s79aa da db cs x.t3 t4 x.t5) (ou79aa da db cs t4) (stp79aa da db cs t4 x.t3 x.t5) := by
  refine (round79aa _ _ _ _ _ _ ).trans ?_
  unfold stp79aa
  simp only [toR_cond]
  rfl
theorem lok79aa {st : St} {outs : List (Bool × Ex × St)} {e : Ex} {s : St} (hl : l79aa st = some outs) (hch : Chosen outs e s) :
    ∃ keep nb, 0 ≤ nb ∧ LB Try.prog Si (ro 79) L79 lp79aa [false, true, false, false, true, false, false, true, false, true, true] keep nb st e s := by
  unfold l79aa at hl
  split at hl
  · rename_i da db cs t3 t4 t5 hno
    cases hl
    have hno := normW_norm hno
    refine ⟨_, _, ?_, .enter hno ?_⟩
    · decide
    have main := fun y h => LB_run (x := (⟨t3, t5⟩ : S79aa)) (y := y) (nb := 0) (fun y => by cases y <;> simp [ou79aa]) (rnd79aa da db cs t4) h
    obtain ⟨x, hx, hg, rfl, rfl⟩ := chosen_any hch
    simp only [List.mem_cons, List.not_mem_nil, or_false] at hx
    subst hx
    exact main _ (is79aa_0 da db cs t4 t3 t5 hg)
  · cases hl
theorem is79a_0 (da : Int) (db : Int) (cs : List (List AV)) (t3 : List (List AV)) (t4 : Int) (h : i79a_0 da db cs t3 t4 = true) : r79a da db cs t3 t4 = some (.x0 (v79a_0_t3 da db cs t3 t4) (v79a_0_t4 da db cs t3 t4)) := by
  unfold i79a_0 at h
  unfold v79a_0_t3 v79a_0_t4
  generalize r79a da db cs t3 t4 = r at h ⊢
  rcases r with _ | y
  · cases h
  · cases y <;> first | rfl | cases h
theorem round79a (da : Int) (db : Int) (cs : List (List AV)) (t3 : List (List AV)) (t4 : Int) : round Try.prog Si (ro 79) L79 lp79a [false, true, false, true, true] [(1, none), (2, none), (3, some 3), (4, none)] 0 (s79a da db cs t3 t4) =
    cond (decide (t4 < (↑cs.length : Int))) (cond (i79aa_0 da db cs t4 t3 0) (some (.nrm, s79a da db cs (v79aa_0_t3 da db cs t4 t3 0) (IntKind.i64.wrap (t4 + 1)))) (none)) (some (.ext 0, o79a_0 da db cs t3 t4)) := by kernel_rfl
theorem rnd79a (da : Int) (db : Int) (cs : List (List AV)) (x : S79a) : round Try.prog Si (ro 79) L79 lp79a [false, true, false, true, true] [(1, none), (2, none), (3, some 3), (4, none)] 0 ((fun x => s79a da db cs x.t3 x.t4) x) = toR (fun x => s79a da db cs x.t3 x.t4) (ou79a da db cs) (stp79a da db cs x.t3 x.t4) := by
  refine (round79a _ _ _ _ _ ).trans ?_
  unfold stp79a
  simp only [toR_cond]
  rfl
theorem lok79a {st : St} {outs : List (Bool × Ex × St)} {e : Ex} {s : St} (hl : l79a st = some outs) (hch : Chosen outs e s) :
    ∃ keep nb, 0 ≤ nb ∧ LB Try.prog Si (ro 79) L79 lp79a [false, true, false, true, true] keep nb st e s := by
  unfold l79a at hl
  split at hl
  · rename_i da db cs t3 t4 hno
    cases hl
    have hno := normW_norm hno
    refine ⟨_, _, ?_, .enter hno ?_⟩
    · decide
    have main := fun y h => LB_run (x := (⟨t3, t4⟩ : S79a)) (y := y) (nb := 0) (fun y => by cases y <;> simp [ou79a]) (rnd79a da db cs) h
    obtain ⟨x, hx, hg, rfl, rfl⟩ := chosen_any hch
    simp only [List.mem_cons, List.not_mem_nil, or_false] at hx
    subst hx
    exact main _ (is79a_0 da db cs t3 t4 hg)
  · cases hl
theorem L79_ok (q : Pl) (c : Code) (hq : locate c79 q.reverse = some (.loop c)) (st : St) (outs : List (Bool × Ex × St)) (e : Ex) (s : St) (hl : L79 q st = some outs) (hch : Chosen outs e s) :
    ∃ keep nb, 0 ≤ nb ∧ LB Try.prog Si (ro 79) L79 c q keep nb st e s := by
  unfold L79 at hl
  split at hl
  · have : locate c79 ([false, true, false, false, true, false, false, true, false, true, true] : Pl).reverse = some (.loop lp79aa) := by kernel_rfl
    rw [this] at hq
    cases hq
    exact lok79aa hl hch
  · have : locate c79 ([false, true, false, true, true] : Pl).reverse = some (.loop lp79a) := by kernel_rfl
    rw [this] at hq
    cases hq
    exact lok79a hl hch
  · cases hl
theorem lok79 : LOK Try.prog Si (ro 79) L79 0 false c79 [] :=
  lok_lo L79_ok c79 [] false (locate_nil _) (by kernel_rfl)
noncomputable def t79 (da db : Int) (cs : List (List AV)) : Tr ((List (List AV))) :=
  .cn (i79a_0 da db cs [] 0) (.lf (v79a_0_t3 da db cs [] 0)) (.nn)
noncomputable def g79 (da db : Int) (cs : List (List AV)) : Bool := (t79 da db cs).g
noncomputable def w79_0 (da db : Int) (cs : List (List AV)) : List (List AV) := (t79 da db cs).val
theorem eq79 (da db : Int) (cs : List (List AV)) : evF Try.prog Si (ro 79) L79 Try.f79 [.agg [.i .i64 da, .i .i64 db, .rs 64 cs]] = (t79 da db cs).opt (fun (x : (List (List AV))) => (.rs 3 x : AV)) := by kernel_rfl
theorem con79 (da db : Int) (cs : List (List AV)) (h : g79 da db cs = true) : Con Try.prog 79 [.agg [.i .i64 da, .i .i64 db, .rs 64 cs]] [] (.rs 3 (w79_0 da db cs)) [] :=
  con_of Si_ok mixed Try.func79 (c := c79) rfl (names 79 _ Try.func79) lok79 ((eq79 da db cs).trans (Tr.sound _ _ h))
noncomputable def e79 (args : List AV) (rows : List Blk) : Option (Bool × AV × List Blk) := match args, rows with
  | [.agg [.i .i64 da, .i .i64 db, .rs 64 cs]], [] => some (g79 da db cs, .rs 3 (w79_0 da db cs), [])
  | _, _ => none
theorem e79_ok (args : List AV) (rows : List Blk) (pre : Bool) (v : AV) (rows' : List Blk) (h : e79 args rows = some (pre, v, rows')) (hp : pre = true) : Con Try.prog 79 args rows v rows' := by
  unfold e79 at h
  split at h
  · cases h; exact con79 _ _ _ hp
  · cases h
-- SPEC 79
end Go.Proofs.Ytgifjphinkbcaaa

set_option maxRecDepth 100000
set_option linter.unusedVariables false
namespace Go.Proofs.Ytgifjphinkbcaaa
open Go Go.Ev
noncomputable def Sj : Ev.Spec := insS 79 e79 (insS 21 e21 (Si))
theorem Sj_ok : SpecOK Try.prog Sj := insS_ok e79_ok (insS_ok e21_ok (Si_ok))
end Go.Proofs.Ytgifjphinkbcaaa
