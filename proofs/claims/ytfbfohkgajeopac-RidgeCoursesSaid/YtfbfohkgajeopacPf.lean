/-
  The evaluator, its soundness, and the functions that several laws reach: what they compute, for all arguments; no conditions.
-/
import Derived.Test.YtfbfohkgajeopacPe
import Derived.Test.YtfbfohkgajeopacPc
import Derived.Test.YtfbfohkgajeopacPd
set_option linter.unusedVariables false
set_option maxRecDepth 100000
set_option maxHeartbeats 0
set_option linter.unusedVariables false
namespace Go.Proofs.Ytfbfohkgajeopac
open Go Go.Ev

noncomputable def c3n : Code := match Try.f3.body with | some c => c | _ => .skip
noncomputable def lp3na : Code := loopAt c3n [true, true, true, true, true, true, false, true, false]
noncomputable def s3na (cs : List (List AV)) (t2 : Bool) (t3 : List (List AV)) (t6 m22_0 m22_1 m22_2 : Int) (m22_3 : List (List AV)) : St :=
  { t := [(1, .rp [.sl 43] [.rs 43 cs] 0), (2, .b t2), (3, .rs 37 t3), (5, .p 22 0 0), (6, .i .i64 t6), (1002203, .u)], m := [(23, .fr 39), (0, .dead), (1, .dead), (2, .dead), (3, .dead), (4, .dead), (5, .dead), (6, .dead), (7, .dead), (8, .dead), (9, .dead), (10, .dead), (11, .dead), (12, .dead), (13, .dead), (14, .dead), (15, .dead), (16, .dead), (17, .dead), (18, .dead), (19, .dead), (20, .dead), (21, .dead), (22, .lrow 33 [[.i .i64 m22_0, .i .i64 m22_1, .i .i64 m22_2, .gv 23 39 m22_3]])], nx := 24, nt := 229 }
structure S3na where
  t6 : Int
  m22_3 : List (List AV)
inductive T3na where
  | x0 (t6 : Int) (m22_3 : List (List AV))
noncomputable def stp3na (cs : List (List AV)) (t2 : Bool) (t3 : List (List AV)) (m22_0 m22_1 m22_2 t6 : Int) (m22_3 : List (List AV)) : Lp S3na T3na :=
  cond (decide (t6 < (↑t3.length : Int))) (cond (decide (1 + (Utf8.encode (IntKind.i32.wrap (IntKind.i64.wrap (97 + t6)))).size ≤ 140737488355328)) (cond (inb t6 t3.length) (cond ((m22_3.length + [[AV.s ((⟨#[112]⟩ : ByteArray) ++ Utf8.encode (IntKind.i32.wrap (IntKind.i64.wrap (97 + t6)))), AV.i IntKind.i64 (fI (t3.getD t6.toNat []) 0), AV.i IntKind.i64 0, AV.i IntKind.i64 0, AV.i IntKind.i64 t6]].length).ble 9223372036854775807 && true) (cond (((m22_3.length + [[AV.s ((⟨#[112]⟩ : ByteArray) ++ Utf8.encode (IntKind.i32.wrap (IntKind.i64.wrap (97 + t6)))), AV.i IntKind.i64 (fI (t3.getD t6.toNat []) 0), AV.i IntKind.i64 0, AV.i IntKind.i64 0, AV.i IntKind.i64 t6]].length) * 48).ble 140737488355328) (.go ⟨IntKind.i64.wrap (t6 + 1), m22_3 ++ [[AV.s ((⟨#[112]⟩ : ByteArray) ++ Utf8.encode (IntKind.i32.wrap (IntKind.i64.wrap (97 + t6)))), AV.i IntKind.i64 (fI (t3.getD t6.toNat []) 0), AV.i IntKind.i64 0, AV.i IntKind.i64 0, AV.i IntKind.i64 t6]]⟩) (.bad)) (.bad)) (.bad)) (.bad)) (.out (.x0 t6 m22_3))
noncomputable def o3na_0 (cs : List (List AV)) (t2 : Bool) (t3 : List (List AV)) (m22_0 m22_1 m22_2 t6 : Int) (m22_3 : List (List AV)) : St :=
  { t := [(1, .rp [.sl 43] [.rs 43 cs] 0), (2, .b t2), (3, .rs 37 t3), (5, .p 22 0 0), (6, .i .i64 t6), (1002203, .u)], m := [(23, .fr 39), (0, .dead), (1, .dead), (2, .dead), (3, .dead), (4, .dead), (5, .dead), (6, .dead), (7, .dead), (8, .dead), (9, .dead), (10, .dead), (11, .dead), (12, .dead), (13, .dead), (14, .dead), (15, .dead), (16, .dead), (17, .dead), (18, .dead), (19, .dead), (20, .dead), (21, .dead), (22, .lrow 33 [[.i .i64 m22_0, .i .i64 m22_1, .i .i64 m22_2, .gv 23 39 m22_3]])], nx := 24, nt := 229 }
noncomputable def ou3na (cs : List (List AV)) (t2 : Bool) (t3 : List (List AV)) (m22_0 m22_1 m22_2 : Int) : T3na → Ex × St
  | .x0 t6 m22_3 => (.ext 0, o3na_0 cs t2 t3 m22_0 m22_1 m22_2 t6 m22_3)
noncomputable def r3na (cs : List (List AV)) (t2 : Bool) (t3 : List (List AV)) (m22_0 m22_1 m22_2 t6 : Int) (m22_3 : List (List AV)) : Option T3na := run (fun x => stp3na cs t2 t3 m22_0 m22_1 m22_2 x.t6 x.m22_3) (⟨t6, m22_3⟩ : S3na)
noncomputable def i3na_0 (cs : List (List AV)) (t2 : Bool) (t3 : List (List AV)) (m22_0 m22_1 m22_2 t6 : Int) (m22_3 : List (List AV)) : Bool := match r3na cs t2 t3 m22_0 m22_1 m22_2 t6 m22_3 with
  | some (.x0 _ _) => true
  | _ => false
noncomputable def v3na_0_t6 (cs : List (List AV)) (t2 : Bool) (t3 : List (List AV)) (m22_0 m22_1 m22_2 t6 : Int) (m22_3 : List (List AV)) : Int := match r3na cs t2 t3 m22_0 m22_1 m22_2 t6 m22_3 with
  | some (.x0 t6 _) => t6
  | _ => default
noncomputable def v3na_0_m22_3 (cs : List (List AV)) (t2 : Bool) (t3 : List (List AV)) (m22_0 m22_1 m22_2 t6 : Int) (m22_3 : List (List AV)) : List (List AV) := match r3na cs t2 t3 m22_0 m22_1 m22_2 t6 m22_3 with
  | some (.x0 _ m22_3) => m22_3
  | _ => default
noncomputable def q3na (cs : List (List AV)) (t2 : Bool) (t3 : List (List AV)) (t6 m22_0 m22_1 m22_2 : Int) (m22_3 : List (List AV)) : List (Bool × Ex × St) := [(i3na_0 cs t2 t3 m22_0 m22_1 m22_2 t6 m22_3, .ext 0, o3na_0 cs t2 t3 m22_0 m22_1 m22_2 (v3na_0_t6 cs t2 t3 m22_0 m22_1 m22_2 t6 m22_3) (v3na_0_m22_3 cs t2 t3 m22_0 m22_1 m22_2 t6 m22_3))]
noncomputable def l3na (st : St) : Option (List (Bool × Ex × St)) := qget [.rp [.sl 43] [.rs 43] 0, .b, .rs 37, .p 22 0 0, .i .i64, .u] [(23, .fr 39), (0, .dead), (1, .dead), (2, .dead), (3, .dead), (4, .dead), (5, .dead), (6, .dead), (7, .dead), (8, .dead), (9, .dead), (10, .dead), (11, .dead), (12, .dead), (13, .dead), (14, .dead), (15, .dead), (16, .dead), (17, .dead), (18, .dead), (19, .dead), (20, .dead), (21, .dead), (22, .lrow 33 [.l [.i .i64, .i .i64, .i .i64, .gv 23 39]])] 24 229 (normW Try.prog [(1, none), (2, none), (3, none), (5, none), (6, none), (1002203, some 39)] 23 st) fun ls => q3na (lLL ls 0) (lB ls 1) (lLL ls 2) (lI ls 3) (lI ls 4) (lI ls 5) (lI ls 6) (lLL ls 7)
noncomputable def lp3nb : Code := loopAt c3n [true, true, true, true, true, true, true, true, false, true, false]
noncomputable def s3nb (cs : List (List AV)) (t2 : Bool) (t3 : List (List AV)) (t7 : Nat) (t8 m22_0 m22_1 m22_2 : Int) (m22_3 m26 : List (List AV)) : St :=
  { t := [(1, .rp [.sl 43] [.rs 43 cs] 0), (2, .b t2), (3, .rs 37 t3), (5, .p 22 0 0), (7, .sl 26 0 t7), (8, .i .i64 t8)], m := [(0, .dead), (1, .dead), (2, .dead), (3, .dead), (4, .dead), (5, .dead), (6, .dead), (7, .dead), (8, .dead), (9, .dead), (10, .dead), (11, .dead), (12, .dead), (13, .dead), (14, .dead), (15, .dead), (16, .dead), (17, .dead), (18, .dead), (19, .dead), (20, .dead), (21, .dead), (22, .lrow 33 [[.i .i64 m22_0, .i .i64 m22_1, .i .i64 m22_2, .gv 23 39 m22_3]]), (23, .dead), (24, .dead), (25, .dead), (26, .row 3 m26)], nx := 27, nt := 229 }
noncomputable def lp3nba : Code := loopAt c3n [true, true, true, true, true, true, true, true, false, true, false, false, true, false, false, true, true, false, true, false]
noncomputable def s3nba (cs : List (List AV)) (t2 : Bool) (t3 : List (List AV)) (t7 : Nat) (t8 : Int) (t9 : List (List AV)) (t10 m22_0 m22_1 m22_2 : Int) (m22_3 m26 : List (List AV)) : St :=
  { t := [(1, .rp [.sl 43] [.rs 43 cs] 0), (2, .b t2), (3, .rs 37 t3), (5, .p 22 0 0), (7, .sl 26 0 t7), (8, .i .i64 t8), (9, .gv 27 3 t9), (10, .i .i64 t10)], m := [(27, .fr 3), (0, .dead), (1, .dead), (2, .dead), (3, .dead), (4, .dead), (5, .dead), (6, .dead), (7, .dead), (8, .dead), (9, .dead), (10, .dead), (11, .dead), (12, .dead), (13, .dead), (14, .dead), (15, .dead), (16, .dead), (17, .dead), (18, .dead), (19, .dead), (20, .dead), (21, .dead), (22, .lrow 33 [[.i .i64 m22_0, .i .i64 m22_1, .i .i64 m22_2, .gv 23 39 m22_3]]), (23, .dead), (24, .dead), (25, .dead), (26, .row 3 m26)], nx := 28, nt := 229 }
noncomputable def lp3nbaa : Code := loopAt c3n [true, true, true, true, true, true, true, true, false, true, false, false, true, false, false, true, true, false, true, false, false, true, false, false, true, true, false, true, false]
noncomputable def s3nbaa (cs : List (List AV)) (t2 : Bool) (t3 : List (List AV)) (t7 : Nat) (t8 : Int) (t9 : List (List AV)) (t10 t12 t13 m22_0 m22_1 m22_2 : Int) (m22_3 m26 : List (List AV)) (m46_0 m46_1 m46_2 m46_3 m46_4 m46_5 : Int) : St :=
  { t := [(1, .rp [.sl 43] [.rs 43 cs] 0), (2, .b t2), (3, .rs 37 t3), (5, .p 22 0 0), (7, .sl 26 0 t7), (8, .i .i64 t8), (9, .gv 47 3 t9), (10, .i .i64 t10), (11, .p 46 0 0), (12, .i .i64 t12), (13, .i .i64 t13)], m := [(47, .fr 3), (0, .dead), (1, .dead), (2, .dead), (3, .dead), (4, .dead), (5, .dead), (6, .dead), (7, .dead), (8, .dead), (9, .dead), (10, .dead), (11, .dead), (12, .dead), (13, .dead), (14, .dead), (15, .dead), (16, .dead), (17, .dead), (18, .dead), (19, .dead), (20, .dead), (21, .dead), (22, .lrow 33 [[.i .i64 m22_0, .i .i64 m22_1, .i .i64 m22_2, .gv 23 39 m22_3]]), (23, .dead), (24, .dead), (25, .dead), (26, .row 3 m26), (27, .dead), (28, .dead), (29, .dead), (30, .dead), (31, .dead), (32, .dead), (33, .dead), (34, .dead), (35, .dead), (36, .dead), (37, .dead), (38, .dead), (39, .dead), (40, .dead), (41, .dead), (42, .dead), (43, .dead), (44, .dead), (45, .dead), (46, .row 45 [[.i .i64 m46_0, .i .i64 m46_1, .i .i64 m46_2, .i .i64 m46_3, .i .i64 m46_4, .i .i64 m46_5]])], nx := 48, nt := 229 }
structure S3nbaa where
  t12 : Int
  t13 : Int
inductive T3nbaa where
  | x0 (t12 : Int) (t13 : Int)
noncomputable def stp3nbaa (cs : List (List AV)) (t2 : Bool) (t3 : List (List AV)) (t7 : Nat) (t8 : Int) (t9 : List (List AV)) (t10 m22_0 m22_1 m22_2 : Int) (m22_3 m26 : List (List AV)) (m46_0 m46_1 m46_2 m46_3 m46_4 m46_5 t12 t13 : Int) : Lp S3nbaa T3nbaa :=
  cond (decide (t13 < (↑t3.length : Int))) (cond (inb t13 t3.length) (cond (fI (t3.getD t13.toNat []) 0 == m46_1 && (fI (t3.getD t13.toNat []) 1 == m46_2 && (fI (t3.getD t13.toNat []) 2 == m46_4 && fI (t3.getD t13.toNat []) 3 == m46_5))) (.go ⟨t13, IntKind.i64.wrap (t13 + 1)⟩) (.go ⟨t12, IntKind.i64.wrap (t13 + 1)⟩)) (.bad)) (.out (.x0 t12 t13))
noncomputable def o3nbaa_0 (cs : List (List AV)) (t2 : Bool) (t3 : List (List AV)) (t7 : Nat) (t8 : Int) (t9 : List (List AV)) (t10 m22_0 m22_1 m22_2 : Int) (m22_3 m26 : List (List AV)) (m46_0 m46_1 m46_2 m46_3 m46_4 m46_5 t12 t13 : Int) : St :=
  { t := [(1, .rp [.sl 43] [.rs 43 cs] 0), (2, .b t2), (3, .rs 37 t3), (5, .p 22 0 0), (7, .sl 26 0 t7), (8, .i .i64 t8), (9, .gv 47 3 t9), (10, .i .i64 t10), (11, .p 46 0 0), (12, .i .i64 t12), (13, .i .i64 t13)], m := [(47, .fr 3), (0, .dead), (1, .dead), (2, .dead), (3, .dead), (4, .dead), (5, .dead), (6, .dead), (7, .dead), (8, .dead), (9, .dead), (10, .dead), (11, .dead), (12, .dead), (13, .dead), (14, .dead), (15, .dead), (16, .dead), (17, .dead), (18, .dead), (19, .dead), (20, .dead), (21, .dead), (22, .lrow 33 [[.i .i64 m22_0, .i .i64 m22_1, .i .i64 m22_2, .gv 23 39 m22_3]]), (23, .dead), (24, .dead), (25, .dead), (26, .row 3 m26), (27, .dead), (28, .dead), (29, .dead), (30, .dead), (31, .dead), (32, .dead), (33, .dead), (34, .dead), (35, .dead), (36, .dead), (37, .dead), (38, .dead), (39, .dead), (40, .dead), (41, .dead), (42, .dead), (43, .dead), (44, .dead), (45, .dead), (46, .row 45 [[.i .i64 m46_0, .i .i64 m46_1, .i .i64 m46_2, .i .i64 m46_3, .i .i64 m46_4, .i .i64 m46_5]])], nx := 48, nt := 229 }
noncomputable def ou3nbaa (cs : List (List AV)) (t2 : Bool) (t3 : List (List AV)) (t7 : Nat) (t8 : Int) (t9 : List (List AV)) (t10 m22_0 m22_1 m22_2 : Int) (m22_3 m26 : List (List AV)) (m46_0 m46_1 m46_2 m46_3 m46_4 m46_5 : Int) : T3nbaa → Ex × St
  | .x0 t12 t13 => (.ext 6, o3nbaa_0 cs t2 t3 t7 t8 t9 t10 m22_0 m22_1 m22_2 m22_3 m26 m46_0 m46_1 m46_2 m46_3 m46_4 m46_5 t12 t13)
noncomputable def r3nbaa (cs : List (List AV)) (t2 : Bool) (t3 : List (List AV)) (t7 : Nat) (t8 : Int) (t9 : List (List AV)) (t10 m22_0 m22_1 m22_2 : Int) (m22_3 m26 : List (List AV)) (m46_0 m46_1 m46_2 m46_3 m46_4 m46_5 t12 t13 : Int) : Option T3nbaa := run (fun x => stp3nbaa cs t2 t3 t7 t8 t9 t10 m22_0 m22_1 m22_2 m22_3 m26 m46_0 m46_1 m46_2 m46_3 m46_4 m46_5 x.t12 x.t13) (⟨t12, t13⟩ : S3nbaa)
noncomputable def i3nbaa_0 (cs : List (List AV)) (t2 : Bool) (t3 : List (List AV)) (t7 : Nat) (t8 : Int) (t9 : List (List AV)) (t10 m22_0 m22_1 m22_2 : Int) (m22_3 m26 : List (List AV)) (m46_0 m46_1 m46_2 m46_3 m46_4 m46_5 t12 t13 : Int) : Bool := match r3nbaa cs t2 t3 t7 t8 t9 t10 m22_0 m22_1 m22_2 m22_3 m26 m46_0 m46_1 m46_2 m46_3 m46_4 m46_5 t12 t13 with
  | some (.x0 _ _) => true
  | _ => false
noncomputable def v3nbaa_0_t12 (cs : List (List AV)) (t2 : Bool) (t3 : List (List AV)) (t7 : Nat) (t8 : Int) (t9 : List (List AV)) (t10 m22_0 m22_1 m22_2 : Int) (m22_3 m26 : List (List AV)) (m46_0 m46_1 m46_2 m46_3 m46_4 m46_5 t12 t13 : Int) : Int := match r3nbaa cs t2 t3 t7 t8 t9 t10 m22_0 m22_1 m22_2 m22_3 m26 m46_0 m46_1 m46_2 m46_3 m46_4 m46_5 t12 t13 with
  | some (.x0 t12 _) => t12
  | _ => default
noncomputable def v3nbaa_0_t13 (cs : List (List AV)) (t2 : Bool) (t3 : List (List AV)) (t7 : Nat) (t8 : Int) (t9 : List (List AV)) (t10 m22_0 m22_1 m22_2 : Int) (m22_3 m26 : List (List AV)) (m46_0 m46_1 m46_2 m46_3 m46_4 m46_5 t12 t13 : Int) : Int := match r3nbaa cs t2 t3 t7 t8 t9 t10 m22_0 m22_1 m22_2 m22_3 m26 m46_0 m46_1 m46_2 m46_3 m46_4 m46_5 t12 t13 with
  | some (.x0 _ t13) => t13
  | _ => default
noncomputable def q3nbaa (cs : List (List AV)) (t2 : Bool) (t3 : List (List AV)) (t7 : Nat) (t8 : Int) (t9 : List (List AV)) (t10 t12 t13 m22_0 m22_1 m22_2 : Int) (m22_3 m26 : List (List AV)) (m46_0 m46_1 m46_2 m46_3 m46_4 m46_5 : Int) : List (Bool × Ex × St) := [(i3nbaa_0 cs t2 t3 t7 t8 t9 t10 m22_0 m22_1 m22_2 m22_3 m26 m46_0 m46_1 m46_2 m46_3 m46_4 m46_5 t12 t13, .ext 6, o3nbaa_0 cs t2 t3 t7 t8 t9 t10 m22_0 m22_1 m22_2 m22_3 m26 m46_0 m46_1 m46_2 m46_3 m46_4 m46_5 (v3nbaa_0_t12 cs t2 t3 t7 t8 t9 t10 m22_0 m22_1 m22_2 m22_3 m26 m46_0 m46_1 m46_2 m46_3 m46_4 m46_5 t12 t13) (v3nbaa_0_t13 cs t2 t3 t7 t8 t9 t10 m22_0 m22_1 m22_2 m22_3 m26 m46_0 m46_1 m46_2 m46_3 m46_4 m46_5 t12 t13))]
noncomputable def l3nbaa (st : St) : Option (List (Bool × Ex × St)) := qget [.rp [.sl 43] [.rs 43] 0, .b, .rs 37, .p 22 0 0, .sl 26 0, .i .i64, .gv 47 3, .i .i64, .p 46 0 0, .i .i64, .i .i64] [(47, .fr 3), (0, .dead), (1, .dead), (2, .dead), (3, .dead), (4, .dead), (5, .dead), (6, .dead), (7, .dead), (8, .dead), (9, .dead), (10, .dead), (11, .dead), (12, .dead), (13, .dead), (14, .dead), (15, .dead), (16, .dead), (17, .dead), (18, .dead), (19, .dead), (20, .dead), (21, .dead), (22, .lrow 33 [.l [.i .i64, .i .i64, .i .i64, .gv 23 39]]), (23, .dead), (24, .dead), (25, .dead), (26, .rowv 3), (27, .dead), (28, .dead), (29, .dead), (30, .dead), (31, .dead), (32, .dead), (33, .dead), (34, .dead), (35, .dead), (36, .dead), (37, .dead), (38, .dead), (39, .dead), (40, .dead), (41, .dead), (42, .dead), (43, .dead), (44, .dead), (45, .dead), (46, .row 45 [.l [.i .i64, .i .i64, .i .i64, .i .i64, .i .i64, .i .i64]])] 48 229 (normW Try.prog [(1, none), (2, none), (3, none), (5, none), (7, none), (8, none), (9, some 3), (10, none), (11, none), (12, none), (13, none)] 47 st) fun ls => q3nbaa (lLL ls 0) (lB ls 1) (lLL ls 2) (lN ls 3) (lI ls 4) (lLL ls 5) (lI ls 6) (lI ls 7) (lI ls 8) (lI ls 9) (lI ls 10) (lI ls 11) (lLL ls 12) (lLL ls 13) (lI ls 14) (lI ls 15) (lI ls 16) (lI ls 17) (lI ls 18) (lI ls 19)
structure S3nba where
  t9 : List (List AV)
  t10 : Int
  m22_0 : Int
inductive T3nba where
  | x0 (t2' : Bool) (t9 : List (List AV)) (t10 : Int) (m22_0 : Int)
  | x1 (t9 : List (List AV)) (t10 : Int) (m22_0 : Int)
noncomputable def stp3nba (cs : List (List AV)) (t2 : Bool) (t3 : List (List AV)) (t7 : Nat) (t8 m22_1 m22_2 : Int) (m22_3 m26 t9 : List (List AV)) (t10 m22_0 : Int) : Lp S3nba T3nba :=
  cond (inb t8 cs.length) (cond (decide (t10 < (↑(fE (cs.getD t8.toNat []) 1).length : Int))) (cond (inb t8 cs.length) (cond (inb t10 (fE (cs.getD t8.toNat []) 1).length) (cond (i3nbaa_0 cs t2 t3 t7 t8 t9 t10 m22_0 m22_1 m22_2 m22_3 m26 (fI ((fE (cs.getD t8.toNat []) 1).getD t10.toNat []) 0) (fI ((fE (cs.getD t8.toNat []) 1).getD t10.toNat []) 1) (fI ((fE (cs.getD t8.toNat []) 1).getD t10.toNat []) 2) (fI ((fE (cs.getD t8.toNat []) 1).getD t10.toNat []) 3) (fI ((fE (cs.getD t8.toNat []) 1).getD t10.toNat []) 4) (fI ((fE (cs.getD t8.toNat []) 1).getD t10.toNat []) 5) (-1) 0) (cond (decide (v3nbaa_0_t12 cs t2 t3 t7 t8 t9 t10 m22_0 m22_1 m22_2 m22_3 m26 (fI ((fE (cs.getD t8.toNat []) 1).getD t10.toNat []) 0) (fI ((fE (cs.getD t8.toNat []) 1).getD t10.toNat []) 1) (fI ((fE (cs.getD t8.toNat []) 1).getD t10.toNat []) 2) (fI ((fE (cs.getD t8.toNat []) 1).getD t10.toNat []) 3) (fI ((fE (cs.getD t8.toNat []) 1).getD t10.toNat []) 4) (fI ((fE (cs.getD t8.toNat []) 1).getD t10.toNat []) 5) (-1) 0 < 0)) (.out (.x0 false t9 t10 m22_0)) (cond ((t9.length + [[AV.i IntKind.i64 (v3nbaa_0_t12 cs t2 t3 t7 t8 t9 t10 m22_0 m22_1 m22_2 m22_3 m26 (fI ((fE (cs.getD t8.toNat []) 1).getD t10.toNat []) 0) (fI ((fE (cs.getD t8.toNat []) 1).getD t10.toNat []) 1) (fI ((fE (cs.getD t8.toNat []) 1).getD t10.toNat []) 2) (fI ((fE (cs.getD t8.toNat []) 1).getD t10.toNat []) 3) (fI ((fE (cs.getD t8.toNat []) 1).getD t10.toNat []) 4) (fI ((fE (cs.getD t8.toNat []) 1).getD t10.toNat []) 5) (-1) 0)]].length).ble 9223372036854775807 && true) (cond (((t9.length + [[AV.i IntKind.i64 (v3nbaa_0_t12 cs t2 t3 t7 t8 t9 t10 m22_0 m22_1 m22_2 m22_3 m26 (fI ((fE (cs.getD t8.toNat []) 1).getD t10.toNat []) 0) (fI ((fE (cs.getD t8.toNat []) 1).getD t10.toNat []) 1) (fI ((fE (cs.getD t8.toNat []) 1).getD t10.toNat []) 2) (fI ((fE (cs.getD t8.toNat []) 1).getD t10.toNat []) 3) (fI ((fE (cs.getD t8.toNat []) 1).getD t10.toNat []) 4) (fI ((fE (cs.getD t8.toNat []) 1).getD t10.toNat []) 5) (-1) 0)]].length) * 8).ble 140737488355328) (.go ⟨t9 ++ [[AV.i IntKind.i64 (v3nbaa_0_t12 cs t2 t3 t7 t8 t9 t10 m22_0 m22_1 m22_2 m22_3 m26 (fI ((fE (cs.getD t8.toNat []) 1).getD t10.toNat []) 0) (fI ((fE (cs.getD t8.toNat []) 1).getD t10.toNat []) 1) (fI ((fE (cs.getD t8.toNat []) 1).getD t10.toNat []) 2) (fI ((fE (cs.getD t8.toNat []) 1).getD t10.toNat []) 3) (fI ((fE (cs.getD t8.toNat []) 1).getD t10.toNat []) 4) (fI ((fE (cs.getD t8.toNat []) 1).getD t10.toNat []) 5) (-1) 0)]], IntKind.i64.wrap (t10 + 1), IntKind.i64.wrap (m22_0 + fI ((fE (cs.getD t8.toNat []) 1).getD t10.toNat []) 1)⟩) (.bad)) (.bad))) (.bad)) (.bad)) (.bad)) (.out (.x1 t9 t10 m22_0))) (.bad)
noncomputable def o3nba_0 (cs : List (List AV)) (t2 : Bool) (t3 : List (List AV)) (t7 : Nat) (t8 m22_1 m22_2 : Int) (m22_3 m26 : List (List AV)) (t2' : Bool) (t9 : List (List AV)) (t10 m22_0 : Int) : St :=
  { t := [(1, .rp [.sl 43] [.rs 43 cs] 0), (2, .b t2'), (3, .rs 37 t3), (5, .p 22 0 0), (7, .sl 26 0 t7), (8, .i .i64 t8), (9, .gv 27 3 t9), (10, .i .i64 t10)], m := [(27, .fr 3), (0, .dead), (1, .dead), (2, .dead), (3, .dead), (4, .dead), (5, .dead), (6, .dead), (7, .dead), (8, .dead), (9, .dead), (10, .dead), (11, .dead), (12, .dead), (13, .dead), (14, .dead), (15, .dead), (16, .dead), (17, .dead), (18, .dead), (19, .dead), (20, .dead), (21, .dead), (22, .lrow 33 [[.i .i64 m22_0, .i .i64 m22_1, .i .i64 m22_2, .gv 23 39 m22_3]]), (23, .dead), (24, .dead), (25, .dead), (26, .row 3 m26)], nx := 28, nt := 229 }
noncomputable def o3nba_1 (cs : List (List AV)) (t2 : Bool) (t3 : List (List AV)) (t7 : Nat) (t8 m22_1 m22_2 : Int) (m22_3 m26 t9 : List (List AV)) (t10 m22_0 : Int) : St :=
  { t := [(1, .rp [.sl 43] [.rs 43 cs] 0), (2, .b t2), (3, .rs 37 t3), (5, .p 22 0 0), (7, .sl 26 0 t7), (8, .i .i64 t8), (9, .gv 27 3 t9), (10, .i .i64 t10)], m := [(27, .fr 3), (0, .dead), (1, .dead), (2, .dead), (3, .dead), (4, .dead), (5, .dead), (6, .dead), (7, .dead), (8, .dead), (9, .dead), (10, .dead), (11, .dead), (12, .dead), (13, .dead), (14, .dead), (15, .dead), (16, .dead), (17, .dead), (18, .dead), (19, .dead), (20, .dead), (21, .dead), (22, .lrow 33 [[.i .i64 m22_0, .i .i64 m22_1, .i .i64 m22_2, .gv 23 39 m22_3]]), (23, .dead), (24, .dead), (25, .dead), (26, .row 3 m26)], nx := 28, nt := 229 }
noncomputable def ou3nba (cs : List (List AV)) (t2 : Bool) (t3 : List (List AV)) (t7 : Nat) (t8 m22_1 m22_2 : Int) (m22_3 m26 : List (List AV)) : T3nba → Ex × St
  | .x0 t2' t9 t10 m22_0 => (.ret, o3nba_0 cs t2 t3 t7 t8 m22_1 m22_2 m22_3 m26 t2' t9 t10 m22_0)
  | .x1 t9 t10 m22_0 => (.ext 4, o3nba_1 cs t2 t3 t7 t8 m22_1 m22_2 m22_3 m26 t9 t10 m22_0)
noncomputable def r3nba (cs : List (List AV)) (t2 : Bool) (t3 : List (List AV)) (t7 : Nat) (t8 m22_1 m22_2 : Int) (m22_3 m26 t9 : List (List AV)) (t10 m22_0 : Int) : Option T3nba := run (fun x => stp3nba cs t2 t3 t7 t8 m22_1 m22_2 m22_3 m26 x.t9 x.t10 x.m22_0) (⟨t9, t10, m22_0⟩ : S3nba)
noncomputable def i3nba_0 (cs : List (List AV)) (t2 : Bool) (t3 : List (List AV)) (t7 : Nat) (t8 m22_1 m22_2 : Int) (m22_3 m26 t9 : List (List AV)) (t10 m22_0 : Int) : Bool := match r3nba cs t2 t3 t7 t8 m22_1 m22_2 m22_3 m26 t9 t10 m22_0 with
  | some (.x0 _ _ _ _) => true
  | _ => false
noncomputable def v3nba_0_t2' (cs : List (List AV)) (t2 : Bool) (t3 : List (List AV)) (t7 : Nat) (t8 m22_1 m22_2 : Int) (m22_3 m26 t9 : List (List AV)) (t10 m22_0 : Int) : Bool := match r3nba cs t2 t3 t7 t8 m22_1 m22_2 m22_3 m26 t9 t10 m22_0 with
  | some (.x0 t2' _ _ _) => t2'
  | _ => default
noncomputable def v3nba_0_t9 (cs : List (List AV)) (t2 : Bool) (t3 : List (List AV)) (t7 : Nat) (t8 m22_1 m22_2 : Int) (m22_3 m26 t9 : List (List AV)) (t10 m22_0 : Int) : List (List AV) := match r3nba cs t2 t3 t7 t8 m22_1 m22_2 m22_3 m26 t9 t10 m22_0 with
  | some (.x0 _ t9 _ _) => t9
  | _ => default
noncomputable def v3nba_0_t10 (cs : List (List AV)) (t2 : Bool) (t3 : List (List AV)) (t7 : Nat) (t8 m22_1 m22_2 : Int) (m22_3 m26 t9 : List (List AV)) (t10 m22_0 : Int) : Int := match r3nba cs t2 t3 t7 t8 m22_1 m22_2 m22_3 m26 t9 t10 m22_0 with
  | some (.x0 _ _ t10 _) => t10
  | _ => default
noncomputable def v3nba_0_m22_0 (cs : List (List AV)) (t2 : Bool) (t3 : List (List AV)) (t7 : Nat) (t8 m22_1 m22_2 : Int) (m22_3 m26 t9 : List (List AV)) (t10 m22_0 : Int) : Int := match r3nba cs t2 t3 t7 t8 m22_1 m22_2 m22_3 m26 t9 t10 m22_0 with
  | some (.x0 _ _ _ m22_0) => m22_0
  | _ => default
noncomputable def i3nba_1 (cs : List (List AV)) (t2 : Bool) (t3 : List (List AV)) (t7 : Nat) (t8 m22_1 m22_2 : Int) (m22_3 m26 t9 : List (List AV)) (t10 m22_0 : Int) : Bool := match r3nba cs t2 t3 t7 t8 m22_1 m22_2 m22_3 m26 t9 t10 m22_0 with
  | some (.x1 _ _ _) => true
  | _ => false
noncomputable def v3nba_1_t9 (cs : List (List AV)) (t2 : Bool) (t3 : List (List AV)) (t7 : Nat) (t8 m22_1 m22_2 : Int) (m22_3 m26 t9 : List (List AV)) (t10 m22_0 : Int) : List (List AV) := match r3nba cs t2 t3 t7 t8 m22_1 m22_2 m22_3 m26 t9 t10 m22_0 with
  | some (.x1 t9 _ _) => t9
  | _ => default
noncomputable def v3nba_1_t10 (cs : List (List AV)) (t2 : Bool) (t3 : List (List AV)) (t7 : Nat) (t8 m22_1 m22_2 : Int) (m22_3 m26 t9 : List (List AV)) (t10 m22_0 : Int) : Int := match r3nba cs t2 t3 t7 t8 m22_1 m22_2 m22_3 m26 t9 t10 m22_0 with
  | some (.x1 _ t10 _) => t10
  | _ => default
noncomputable def v3nba_1_m22_0 (cs : List (List AV)) (t2 : Bool) (t3 : List (List AV)) (t7 : Nat) (t8 m22_1 m22_2 : Int) (m22_3 m26 t9 : List (List AV)) (t10 m22_0 : Int) : Int := match r3nba cs t2 t3 t7 t8 m22_1 m22_2 m22_3 m26 t9 t10 m22_0 with
  | some (.x1 _ _ m22_0) => m22_0
  | _ => default
noncomputable def q3nba (cs : List (List AV)) (t2 : Bool) (t3 : List (List AV)) (t7 : Nat) (t8 : Int) (t9 : List (List AV)) (t10 m22_0 m22_1 m22_2 : Int) (m22_3 m26 : List (List AV)) : List (Bool × Ex × St) := [(i3nba_0 cs t2 t3 t7 t8 m22_1 m22_2 m22_3 m26 t9 t10 m22_0, .ret, o3nba_0 cs t2 t3 t7 t8 m22_1 m22_2 m22_3 m26 (v3nba_0_t2' cs t2 t3 t7 t8 m22_1 m22_2 m22_3 m26 t9 t10 m22_0) (v3nba_0_t9 cs t2 t3 t7 t8 m22_1 m22_2 m22_3 m26 t9 t10 m22_0) (v3nba_0_t10 cs t2 t3 t7 t8 m22_1 m22_2 m22_3 m26 t9 t10 m22_0) (v3nba_0_m22_0 cs t2 t3 t7 t8 m22_1 m22_2 m22_3 m26 t9 t10 m22_0)), (i3nba_1 cs t2 t3 t7 t8 m22_1 m22_2 m22_3 m26 t9 t10 m22_0, .ext 4, o3nba_1 cs t2 t3 t7 t8 m22_1 m22_2 m22_3 m26 (v3nba_1_t9 cs t2 t3 t7 t8 m22_1 m22_2 m22_3 m26 t9 t10 m22_0) (v3nba_1_t10 cs t2 t3 t7 t8 m22_1 m22_2 m22_3 m26 t9 t10 m22_0) (v3nba_1_m22_0 cs t2 t3 t7 t8 m22_1 m22_2 m22_3 m26 t9 t10 m22_0))]
noncomputable def l3nba (st : St) : Option (List (Bool × Ex × St)) := qget [.rp [.sl 43] [.rs 43] 0, .b, .rs 37, .p 22 0 0, .sl 26 0, .i .i64, .gv 27 3, .i .i64] [(27, .fr 3), (0, .dead), (1, .dead), (2, .dead), (3, .dead), (4, .dead), (5, .dead), (6, .dead), (7, .dead), (8, .dead), (9, .dead), (10, .dead), (11, .dead), (12, .dead), (13, .dead), (14, .dead), (15, .dead), (16, .dead), (17, .dead), (18, .dead), (19, .dead), (20, .dead), (21, .dead), (22, .lrow 33 [.l [.i .i64, .i .i64, .i .i64, .gv 23 39]]), (23, .dead), (24, .dead), (25, .dead), (26, .rowv 3)] 28 229 (normW Try.prog [(1, none), (2, none), (3, none), (5, none), (7, none), (8, none), (9, some 3), (10, none)] 27 st) fun ls => q3nba (lLL ls 0) (lB ls 1) (lLL ls 2) (lN ls 3) (lI ls 4) (lLL ls 5) (lI ls 6) (lI ls 7) (lI ls 8) (lI ls 9) (lLL ls 10) (lLL ls 11)
noncomputable def lp3nbb : Code := loopAt c3n [true, true, true, true, true, true, true, true, false, true, false, false, true, false, false, true, true, true, true, true, true, true, false, true, false]
noncomputable def s3nbb (cs : List (List AV)) (t2 : Bool) (t3 : List (List AV)) (t7 : Nat) (t8 : Int) (t9 : List (List AV)) (t15 : Int) (t16 : List (List AV)) (t17 t18 m22_0 m22_1 m22_2 : Int) (m22_3 m26 : List (List AV)) : St :=
  { t := [(1, .rp [.sl 43] [.rs 43 cs] 0), (2, .b t2), (3, .rs 37 t3), (5, .p 22 0 0), (7, .sl 26 0 t7), (8, .i .i64 t8), (9, .gv 27 3 t9), (15, .i .i64 t15), (16, .rs 3 t16), (17, .i .i64 t17), (18, .i .i64 t18)], m := [(27, .fr 3), (0, .dead), (1, .dead), (2, .dead), (3, .dead), (4, .dead), (5, .dead), (6, .dead), (7, .dead), (8, .dead), (9, .dead), (10, .dead), (11, .dead), (12, .dead), (13, .dead), (14, .dead), (15, .dead), (16, .dead), (17, .dead), (18, .dead), (19, .dead), (20, .dead), (21, .dead), (22, .lrow 33 [[.i .i64 m22_0, .i .i64 m22_1, .i .i64 m22_2, .gv 23 39 m22_3]]), (23, .dead), (24, .dead), (25, .dead), (26, .row 3 m26)], nx := 28, nt := 229 }
structure S3nbb where
  t18 : Int
  m26 : List (List AV)
inductive T3nbb where
  | x0 (t18 : Int) (m26 : List (List AV))
noncomputable def stp3nbb (cs : List (List AV)) (t2 : Bool) (t3 : List (List AV)) (t7 : Nat) (t8 : Int) (t9 : List (List AV)) (t15 : Int) (t16 : List (List AV)) (t17 m22_0 m22_1 m22_2 : Int) (m22_3 : List (List AV)) (t18 : Int) (m26 : List (List AV)) : Lp S3nbb T3nbb :=
  cond (decide (t18 < (↑t7 : Int))) (cond (inb t18 t7 && (0 + t18.toNat).blt m26.length) (cond ((0 + t18.toNat).blt m26.length) (cond (inb t18 t16.length) (cond (inb t18 t7 && (0 + t18.toNat).blt m26.length) (cond ((0 + t18.toNat).blt m26.length) (.go ⟨IntKind.i64.wrap (t18 + 1), m26.set (0 + t18.toNat) (setCs (m26.getD (0 + t18.toNat) []) 0 [AV.i IntKind.i64 (IntKind.i64.wrap (fI (m26.getD (0 + t18.toNat) []) 0 + fI (t16.getD t18.toNat []) 0))])⟩) (.bad)) (.bad)) (.bad)) (.bad)) (.bad)) (.out (.x0 t18 m26))
noncomputable def o3nbb_0 (cs : List (List AV)) (t2 : Bool) (t3 : List (List AV)) (t7 : Nat) (t8 : Int) (t9 : List (List AV)) (t15 : Int) (t16 : List (List AV)) (t17 m22_0 m22_1 m22_2 : Int) (m22_3 : List (List AV)) (t18 : Int) (m26 : List (List AV)) : St :=
  { t := [(1, .rp [.sl 43] [.rs 43 cs] 0), (2, .b t2), (3, .rs 37 t3), (5, .p 22 0 0), (7, .sl 26 0 t7), (8, .i .i64 t8), (9, .gv 27 3 t9), (15, .i .i64 t15), (16, .rs 3 t16), (17, .i .i64 t17), (18, .i .i64 t18)], m := [(27, .fr 3), (0, .dead), (1, .dead), (2, .dead), (3, .dead), (4, .dead), (5, .dead), (6, .dead), (7, .dead), (8, .dead), (9, .dead), (10, .dead), (11, .dead), (12, .dead), (13, .dead), (14, .dead), (15, .dead), (16, .dead), (17, .dead), (18, .dead), (19, .dead), (20, .dead), (21, .dead), (22, .lrow 33 [[.i .i64 m22_0, .i .i64 m22_1, .i .i64 m22_2, .gv 23 39 m22_3]]), (23, .dead), (24, .dead), (25, .dead), (26, .row 3 m26)], nx := 28, nt := 229 }
noncomputable def ou3nbb (cs : List (List AV)) (t2 : Bool) (t3 : List (List AV)) (t7 : Nat) (t8 : Int) (t9 : List (List AV)) (t15 : Int) (t16 : List (List AV)) (t17 m22_0 m22_1 m22_2 : Int) (m22_3 : List (List AV)) : T3nbb → Ex × St
  | .x0 t18 m26 => (.ext 8, o3nbb_0 cs t2 t3 t7 t8 t9 t15 t16 t17 m22_0 m22_1 m22_2 m22_3 t18 m26)
noncomputable def r3nbb (cs : List (List AV)) (t2 : Bool) (t3 : List (List AV)) (t7 : Nat) (t8 : Int) (t9 : List (List AV)) (t15 : Int) (t16 : List (List AV)) (t17 m22_0 m22_1 m22_2 : Int) (m22_3 : List (List AV)) (t18 : Int) (m26 : List (List AV)) : Option T3nbb := run (fun x => stp3nbb cs t2 t3 t7 t8 t9 t15 t16 t17 m22_0 m22_1 m22_2 m22_3 x.t18 x.m26) (⟨t18, m26⟩ : S3nbb)
noncomputable def i3nbb_0 (cs : List (List AV)) (t2 : Bool) (t3 : List (List AV)) (t7 : Nat) (t8 : Int) (t9 : List (List AV)) (t15 : Int) (t16 : List (List AV)) (t17 m22_0 m22_1 m22_2 : Int) (m22_3 : List (List AV)) (t18 : Int) (m26 : List (List AV)) : Bool := match r3nbb cs t2 t3 t7 t8 t9 t15 t16 t17 m22_0 m22_1 m22_2 m22_3 t18 m26 with
  | some (.x0 _ _) => true
  | _ => false
noncomputable def v3nbb_0_t18 (cs : List (List AV)) (t2 : Bool) (t3 : List (List AV)) (t7 : Nat) (t8 : Int) (t9 : List (List AV)) (t15 : Int) (t16 : List (List AV)) (t17 m22_0 m22_1 m22_2 : Int) (m22_3 : List (List AV)) (t18 : Int) (m26 : List (List AV)) : Int := match r3nbb cs t2 t3 t7 t8 t9 t15 t16 t17 m22_0 m22_1 m22_2 m22_3 t18 m26 with
  | some (.x0 t18 _) => t18
  | _ => default
noncomputable def v3nbb_0_m26 (cs : List (List AV)) (t2 : Bool) (t3 : List (List AV)) (t7 : Nat) (t8 : Int) (t9 : List (List AV)) (t15 : Int) (t16 : List (List AV)) (t17 m22_0 m22_1 m22_2 : Int) (m22_3 : List (List AV)) (t18 : Int) (m26 : List (List AV)) : List (List AV) := match r3nbb cs t2 t3 t7 t8 t9 t15 t16 t17 m22_0 m22_1 m22_2 m22_3 t18 m26 with
  | some (.x0 _ m26) => m26
  | _ => default
noncomputable def q3nbb (cs : List (List AV)) (t2 : Bool) (t3 : List (List AV)) (t7 : Nat) (t8 : Int) (t9 : List (List AV)) (t15 : Int) (t16 : List (List AV)) (t17 t18 m22_0 m22_1 m22_2 : Int) (m22_3 m26 : List (List AV)) : List (Bool × Ex × St) := [(i3nbb_0 cs t2 t3 t7 t8 t9 t15 t16 t17 m22_0 m22_1 m22_2 m22_3 t18 m26, .ext 8, o3nbb_0 cs t2 t3 t7 t8 t9 t15 t16 t17 m22_0 m22_1 m22_2 m22_3 (v3nbb_0_t18 cs t2 t3 t7 t8 t9 t15 t16 t17 m22_0 m22_1 m22_2 m22_3 t18 m26) (v3nbb_0_m26 cs t2 t3 t7 t8 t9 t15 t16 t17 m22_0 m22_1 m22_2 m22_3 t18 m26))]
noncomputable def l3nbb (st : St) : Option (List (Bool × Ex × St)) := qget [.rp [.sl 43] [.rs 43] 0, .b, .rs 37, .p 22 0 0, .sl 26 0, .i .i64, .gv 27 3, .i .i64, .rs 3, .i .i64, .i .i64] [(27, .fr 3), (0, .dead), (1, .dead), (2, .dead), (3, .dead), (4, .dead), (5, .dead), (6, .dead), (7, .dead), (8, .dead), (9, .dead), (10, .dead), (11, .dead), (12, .dead), (13, .dead), (14, .dead), (15, .dead), (16, .dead), (17, .dead), (18, .dead), (19, .dead), (20, .dead), (21, .dead), (22, .lrow 33 [.l [.i .i64, .i .i64, .i .i64, .gv 23 39]]), (23, .dead), (24, .dead), (25, .dead), (26, .rowv 3)] 28 229 (normW Try.prog [(1, none), (2, none), (3, none), (5, none), (7, none), (8, none), (9, some 3), (15, none), (16, none), (17, none), (18, none)] 27 st) fun ls => q3nbb (lLL ls 0) (lB ls 1) (lLL ls 2) (lN ls 3) (lI ls 4) (lLL ls 5) (lI ls 6) (lLL ls 7) (lI ls 8) (lI ls 9) (lI ls 10) (lI ls 11) (lI ls 12) (lLL ls 13) (lLL ls 14)
structure S3nb where
  t8 : Int
  m22_0 : Int
  m26 : List (List AV)
inductive T3nb where
  | x0 (t2' : Bool) (t8 : Int) (m22_0 : Int) (m26 : List (List AV))
  | x1 (t8 : Int) (m22_0 : Int) (m26 : List (List AV))
noncomputable def stp3nb (cs : List (List AV)) (t2 : Bool) (t3 : List (List AV)) (t7 : Nat) (m22_1 m22_2 : Int) (m22_3 : List (List AV)) (t8 m22_0 : Int) (m26 : List (List AV)) : Lp S3nb T3nb :=
  cond (decide (t8 < (↑cs.length : Int))) (cond (i3nba_0 cs t2 t3 t7 t8 m22_1 m22_2 m22_3 m26 [] 0 0) (.out (.x0 (v3nba_0_t2' cs t2 t3 t7 t8 m22_1 m22_2 m22_3 m26 [] 0 0) t8 (v3nba_0_m22_0 cs t2 t3 t7 t8 m22_1 m22_2 m22_3 m26 [] 0 0) m26)) (cond (i3nba_1 cs t2 t3 t7 t8 m22_1 m22_2 m22_3 m26 [] 0 0) (cond (decide (v3nba_1_m22_0 cs t2 t3 t7 t8 m22_1 m22_2 m22_3 m26 [] 0 0 > 300)) (.out (.x0 true t8 (v3nba_1_m22_0 cs t2 t3 t7 t8 m22_1 m22_2 m22_3 m26 [] 0 0) m26)) (cond (g30 (v3nba_1_m22_0 cs t2 t3 t7 t8 m22_1 m22_2 m22_3 m26 [] 0 0) m22_1 m22_2 m22_3 (v3nba_1_t9 cs t2 t3 t7 t8 m22_1 m22_2 m22_3 m26 [] 0 0)) (cond (g34 (v3nba_1_m22_0 cs t2 t3 t7 t8 m22_1 m22_2 m22_3 m26 [] 0 0) m22_1 m22_2 m22_3 (v3nba_1_t9 cs t2 t3 t7 t8 m22_1 m22_2 m22_3 m26 [] 0 0)) (cond (w30_1 (v3nba_1_m22_0 cs t2 t3 t7 t8 m22_1 m22_2 m22_3 m26 [] 0 0) m22_1 m22_2 m22_3 (v3nba_1_t9 cs t2 t3 t7 t8 m22_1 m22_2 m22_3 m26 [] 0 0) != 0) (.out (.x0 false t8 (v3nba_1_m22_0 cs t2 t3 t7 t8 m22_1 m22_2 m22_3 m26 [] 0 0) m26)) (cond (w34_1 (v3nba_1_m22_0 cs t2 t3 t7 t8 m22_1 m22_2 m22_3 m26 [] 0 0) m22_1 m22_2 m22_3 (v3nba_1_t9 cs t2 t3 t7 t8 m22_1 m22_2 m22_3 m26 [] 0 0) != 0) (.out (.x0 false t8 (v3nba_1_m22_0 cs t2 t3 t7 t8 m22_1 m22_2 m22_3 m26 [] 0 0) m26)) (cond (!w30_0 (v3nba_1_m22_0 cs t2 t3 t7 t8 m22_1 m22_2 m22_3 m26 [] 0 0) m22_1 m22_2 m22_3 (v3nba_1_t9 cs t2 t3 t7 t8 m22_1 m22_2 m22_3 m26 [] 0 0)) (.out (.x0 false t8 (v3nba_1_m22_0 cs t2 t3 t7 t8 m22_1 m22_2 m22_3 m26 [] 0 0) m26)) (cond ((↑(w34_0 (v3nba_1_m22_0 cs t2 t3 t7 t8 m22_1 m22_2 m22_3 m26 [] 0 0) m22_1 m22_2 m22_3 (v3nba_1_t9 cs t2 t3 t7 t8 m22_1 m22_2 m22_3 m26 [] 0 0)).length : Int) != (↑t7 : Int)) (.out (.x0 false t8 (v3nba_1_m22_0 cs t2 t3 t7 t8 m22_1 m22_2 m22_3 m26 [] 0 0) m26)) (cond (i3nbb_0 cs t2 t3 t7 t8 (v3nba_1_t9 cs t2 t3 t7 t8 m22_1 m22_2 m22_3 m26 [] 0 0) (w30_1 (v3nba_1_m22_0 cs t2 t3 t7 t8 m22_1 m22_2 m22_3 m26 [] 0 0) m22_1 m22_2 m22_3 (v3nba_1_t9 cs t2 t3 t7 t8 m22_1 m22_2 m22_3 m26 [] 0 0)) (w34_0 (v3nba_1_m22_0 cs t2 t3 t7 t8 m22_1 m22_2 m22_3 m26 [] 0 0) m22_1 m22_2 m22_3 (v3nba_1_t9 cs t2 t3 t7 t8 m22_1 m22_2 m22_3 m26 [] 0 0)) (w34_1 (v3nba_1_m22_0 cs t2 t3 t7 t8 m22_1 m22_2 m22_3 m26 [] 0 0) m22_1 m22_2 m22_3 (v3nba_1_t9 cs t2 t3 t7 t8 m22_1 m22_2 m22_3 m26 [] 0 0)) (v3nba_1_m22_0 cs t2 t3 t7 t8 m22_1 m22_2 m22_3 m26 [] 0 0) m22_1 m22_2 m22_3 0 m26) (cond (g42 (v3nba_1_m22_0 cs t2 t3 t7 t8 m22_1 m22_2 m22_3 m26 [] 0 0) m22_1 m22_2 m22_3 (v3nba_1_t9 cs t2 t3 t7 t8 m22_1 m22_2 m22_3 m26 [] 0 0)) (cond (w42_1 (v3nba_1_m22_0 cs t2 t3 t7 t8 m22_1 m22_2 m22_3 m26 [] 0 0) m22_1 m22_2 m22_3 (v3nba_1_t9 cs t2 t3 t7 t8 m22_1 m22_2 m22_3 m26 [] 0 0) == 3) (.go ⟨IntKind.i64.wrap (t8 + 1), v3nba_1_m22_0 cs t2 t3 t7 t8 m22_1 m22_2 m22_3 m26 [] 0 0, v3nbb_0_m26 cs t2 t3 t7 t8 (v3nba_1_t9 cs t2 t3 t7 t8 m22_1 m22_2 m22_3 m26 [] 0 0) (w30_1 (v3nba_1_m22_0 cs t2 t3 t7 t8 m22_1 m22_2 m22_3 m26 [] 0 0) m22_1 m22_2 m22_3 (v3nba_1_t9 cs t2 t3 t7 t8 m22_1 m22_2 m22_3 m26 [] 0 0)) (w34_0 (v3nba_1_m22_0 cs t2 t3 t7 t8 m22_1 m22_2 m22_3 m26 [] 0 0) m22_1 m22_2 m22_3 (v3nba_1_t9 cs t2 t3 t7 t8 m22_1 m22_2 m22_3 m26 [] 0 0)) (w34_1 (v3nba_1_m22_0 cs t2 t3 t7 t8 m22_1 m22_2 m22_3 m26 [] 0 0) m22_1 m22_2 m22_3 (v3nba_1_t9 cs t2 t3 t7 t8 m22_1 m22_2 m22_3 m26 [] 0 0)) (v3nba_1_m22_0 cs t2 t3 t7 t8 m22_1 m22_2 m22_3 m26 [] 0 0) m22_1 m22_2 m22_3 0 m26⟩) (cond (g40 (v3nba_1_m22_0 cs t2 t3 t7 t8 m22_1 m22_2 m22_3 m26 [] 0 0) m22_1 m22_2 m22_3 (w42_0 (v3nba_1_m22_0 cs t2 t3 t7 t8 m22_1 m22_2 m22_3 m26 [] 0 0) m22_1 m22_2 m22_3 (v3nba_1_t9 cs t2 t3 t7 t8 m22_1 m22_2 m22_3 m26 [] 0 0))) (cond (w42_1 (v3nba_1_m22_0 cs t2 t3 t7 t8 m22_1 m22_2 m22_3 m26 [] 0 0) m22_1 m22_2 m22_3 (v3nba_1_t9 cs t2 t3 t7 t8 m22_1 m22_2 m22_3 m26 [] 0 0) != 0) (.out (.x0 false t8 (v3nba_1_m22_0 cs t2 t3 t7 t8 m22_1 m22_2 m22_3 m26 [] 0 0) (v3nbb_0_m26 cs t2 t3 t7 t8 (v3nba_1_t9 cs t2 t3 t7 t8 m22_1 m22_2 m22_3 m26 [] 0 0) (w30_1 (v3nba_1_m22_0 cs t2 t3 t7 t8 m22_1 m22_2 m22_3 m26 [] 0 0) m22_1 m22_2 m22_3 (v3nba_1_t9 cs t2 t3 t7 t8 m22_1 m22_2 m22_3 m26 [] 0 0)) (w34_0 (v3nba_1_m22_0 cs t2 t3 t7 t8 m22_1 m22_2 m22_3 m26 [] 0 0) m22_1 m22_2 m22_3 (v3nba_1_t9 cs t2 t3 t7 t8 m22_1 m22_2 m22_3 m26 [] 0 0)) (w34_1 (v3nba_1_m22_0 cs t2 t3 t7 t8 m22_1 m22_2 m22_3 m26 [] 0 0) m22_1 m22_2 m22_3 (v3nba_1_t9 cs t2 t3 t7 t8 m22_1 m22_2 m22_3 m26 [] 0 0)) (v3nba_1_m22_0 cs t2 t3 t7 t8 m22_1 m22_2 m22_3 m26 [] 0 0) m22_1 m22_2 m22_3 0 m26))) (cond (w40_1 (v3nba_1_m22_0 cs t2 t3 t7 t8 m22_1 m22_2 m22_3 m26 [] 0 0) m22_1 m22_2 m22_3 (w42_0 (v3nba_1_m22_0 cs t2 t3 t7 t8 m22_1 m22_2 m22_3 m26 [] 0 0) m22_1 m22_2 m22_3 (v3nba_1_t9 cs t2 t3 t7 t8 m22_1 m22_2 m22_3 m26 [] 0 0)) != 0) (.out (.x0 false t8 (v3nba_1_m22_0 cs t2 t3 t7 t8 m22_1 m22_2 m22_3 m26 [] 0 0) (v3nbb_0_m26 cs t2 t3 t7 t8 (v3nba_1_t9 cs t2 t3 t7 t8 m22_1 m22_2 m22_3 m26 [] 0 0) (w30_1 (v3nba_1_m22_0 cs t2 t3 t7 t8 m22_1 m22_2 m22_3 m26 [] 0 0) m22_1 m22_2 m22_3 (v3nba_1_t9 cs t2 t3 t7 t8 m22_1 m22_2 m22_3 m26 [] 0 0)) (w34_0 (v3nba_1_m22_0 cs t2 t3 t7 t8 m22_1 m22_2 m22_3 m26 [] 0 0) m22_1 m22_2 m22_3 (v3nba_1_t9 cs t2 t3 t7 t8 m22_1 m22_2 m22_3 m26 [] 0 0)) (w34_1 (v3nba_1_m22_0 cs t2 t3 t7 t8 m22_1 m22_2 m22_3 m26 [] 0 0) m22_1 m22_2 m22_3 (v3nba_1_t9 cs t2 t3 t7 t8 m22_1 m22_2 m22_3 m26 [] 0 0)) (v3nba_1_m22_0 cs t2 t3 t7 t8 m22_1 m22_2 m22_3 m26 [] 0 0) m22_1 m22_2 m22_3 0 m26))) (cond (g28 (v3nba_1_t9 cs t2 t3 t7 t8 m22_1 m22_2 m22_3 m26 [] 0 0) (w40_0 (v3nba_1_m22_0 cs t2 t3 t7 t8 m22_1 m22_2 m22_3 m26 [] 0 0) m22_1 m22_2 m22_3 (w42_0 (v3nba_1_m22_0 cs t2 t3 t7 t8 m22_1 m22_2 m22_3 m26 [] 0 0) m22_1 m22_2 m22_3 (v3nba_1_t9 cs t2 t3 t7 t8 m22_1 m22_2 m22_3 m26 [] 0 0)))) (cond (!w28_0 (v3nba_1_t9 cs t2 t3 t7 t8 m22_1 m22_2 m22_3 m26 [] 0 0) (w40_0 (v3nba_1_m22_0 cs t2 t3 t7 t8 m22_1 m22_2 m22_3 m26 [] 0 0) m22_1 m22_2 m22_3 (w42_0 (v3nba_1_m22_0 cs t2 t3 t7 t8 m22_1 m22_2 m22_3 m26 [] 0 0) m22_1 m22_2 m22_3 (v3nba_1_t9 cs t2 t3 t7 t8 m22_1 m22_2 m22_3 m26 [] 0 0)))) (.out (.x0 false t8 (v3nba_1_m22_0 cs t2 t3 t7 t8 m22_1 m22_2 m22_3 m26 [] 0 0) (v3nbb_0_m26 cs t2 t3 t7 t8 (v3nba_1_t9 cs t2 t3 t7 t8 m22_1 m22_2 m22_3 m26 [] 0 0) (w30_1 (v3nba_1_m22_0 cs t2 t3 t7 t8 m22_1 m22_2 m22_3 m26 [] 0 0) m22_1 m22_2 m22_3 (v3nba_1_t9 cs t2 t3 t7 t8 m22_1 m22_2 m22_3 m26 [] 0 0)) (w34_0 (v3nba_1_m22_0 cs t2 t3 t7 t8 m22_1 m22_2 m22_3 m26 [] 0 0) m22_1 m22_2 m22_3 (v3nba_1_t9 cs t2 t3 t7 t8 m22_1 m22_2 m22_3 m26 [] 0 0)) (w34_1 (v3nba_1_m22_0 cs t2 t3 t7 t8 m22_1 m22_2 m22_3 m26 [] 0 0) m22_1 m22_2 m22_3 (v3nba_1_t9 cs t2 t3 t7 t8 m22_1 m22_2 m22_3 m26 [] 0 0)) (v3nba_1_m22_0 cs t2 t3 t7 t8 m22_1 m22_2 m22_3 m26 [] 0 0) m22_1 m22_2 m22_3 0 m26))) (.go ⟨IntKind.i64.wrap (t8 + 1), v3nba_1_m22_0 cs t2 t3 t7 t8 m22_1 m22_2 m22_3 m26 [] 0 0, v3nbb_0_m26 cs t2 t3 t7 t8 (v3nba_1_t9 cs t2 t3 t7 t8 m22_1 m22_2 m22_3 m26 [] 0 0) (w30_1 (v3nba_1_m22_0 cs t2 t3 t7 t8 m22_1 m22_2 m22_3 m26 [] 0 0) m22_1 m22_2 m22_3 (v3nba_1_t9 cs t2 t3 t7 t8 m22_1 m22_2 m22_3 m26 [] 0 0)) (w34_0 (v3nba_1_m22_0 cs t2 t3 t7 t8 m22_1 m22_2 m22_3 m26 [] 0 0) m22_1 m22_2 m22_3 (v3nba_1_t9 cs t2 t3 t7 t8 m22_1 m22_2 m22_3 m26 [] 0 0)) (w34_1 (v3nba_1_m22_0 cs t2 t3 t7 t8 m22_1 m22_2 m22_3 m26 [] 0 0) m22_1 m22_2 m22_3 (v3nba_1_t9 cs t2 t3 t7 t8 m22_1 m22_2 m22_3 m26 [] 0 0)) (v3nba_1_m22_0 cs t2 t3 t7 t8 m22_1 m22_2 m22_3 m26 [] 0 0) m22_1 m22_2 m22_3 0 m26⟩)) (.bad)))) (.bad))) (.bad)) (.bad)))))) (.bad)) (.bad))) (.bad))) (.out (.x1 t8 m22_0 m26))
noncomputable def o3nb_0 (cs : List (List AV)) (t2 : Bool) (t3 : List (List AV)) (t7 : Nat) (m22_1 m22_2 : Int) (m22_3 : List (List AV)) (t2' : Bool) (t8 m22_0 : Int) (m26 : List (List AV)) : St :=
  { t := [(1, .rp [.sl 43] [.rs 43 cs] 0), (2, .b t2'), (3, .rs 37 t3), (5, .p 22 0 0), (7, .sl 26 0 t7), (8, .i .i64 t8)], m := [(0, .dead), (1, .dead), (2, .dead), (3, .dead), (4, .dead), (5, .dead), (6, .dead), (7, .dead), (8, .dead), (9, .dead), (10, .dead), (11, .dead), (12, .dead), (13, .dead), (14, .dead), (15, .dead), (16, .dead), (17, .dead), (18, .dead), (19, .dead), (20, .dead), (21, .dead), (22, .lrow 33 [[.i .i64 m22_0, .i .i64 m22_1, .i .i64 m22_2, .gv 23 39 m22_3]]), (23, .dead), (24, .dead), (25, .dead), (26, .row 3 m26)], nx := 27, nt := 229 }
noncomputable def o3nb_1 (cs : List (List AV)) (t2 : Bool) (t3 : List (List AV)) (t7 : Nat) (m22_1 m22_2 : Int) (m22_3 : List (List AV)) (t8 m22_0 : Int) (m26 : List (List AV)) : St :=
  { t := [(1, .rp [.sl 43] [.rs 43 cs] 0), (2, .b t2), (3, .rs 37 t3), (5, .p 22 0 0), (7, .sl 26 0 t7), (8, .i .i64 t8)], m := [(0, .dead), (1, .dead), (2, .dead), (3, .dead), (4, .dead), (5, .dead), (6, .dead), (7, .dead), (8, .dead), (9, .dead), (10, .dead), (11, .dead), (12, .dead), (13, .dead), (14, .dead), (15, .dead), (16, .dead), (17, .dead), (18, .dead), (19, .dead), (20, .dead), (21, .dead), (22, .lrow 33 [[.i .i64 m22_0, .i .i64 m22_1, .i .i64 m22_2, .gv 23 39 m22_3]]), (23, .dead), (24, .dead), (25, .dead), (26, .row 3 m26)], nx := 27, nt := 229 }
noncomputable def ou3nb (cs : List (List AV)) (t2 : Bool) (t3 : List (List AV)) (t7 : Nat) (m22_1 m22_2 : Int) (m22_3 : List (List AV)) : T3nb → Ex × St
  | .x0 t2' t8 m22_0 m26 => (.ret, o3nb_0 cs t2 t3 t7 m22_1 m22_2 m22_3 t2' t8 m22_0 m26)
  | .x1 t8 m22_0 m26 => (.ext 2, o3nb_1 cs t2 t3 t7 m22_1 m22_2 m22_3 t8 m22_0 m26)
noncomputable def r3nb (cs : List (List AV)) (t2 : Bool) (t3 : List (List AV)) (t7 : Nat) (m22_1 m22_2 : Int) (m22_3 : List (List AV)) (t8 m22_0 : Int) (m26 : List (List AV)) : Option T3nb := run (fun x => stp3nb cs t2 t3 t7 m22_1 m22_2 m22_3 x.t8 x.m22_0 x.m26) (⟨t8, m22_0, m26⟩ : S3nb)
noncomputable def i3nb_0 (cs : List (List AV)) (t2 : Bool) (t3 : List (List AV)) (t7 : Nat) (m22_1 m22_2 : Int) (m22_3 : List (List AV)) (t8 m22_0 : Int) (m26 : List (List AV)) : Bool := match r3nb cs t2 t3 t7 m22_1 m22_2 m22_3 t8 m22_0 m26 with
  | some (.x0 _ _ _ _) => true
  | _ => false
noncomputable def v3nb_0_t2' (cs : List (List AV)) (t2 : Bool) (t3 : List (List AV)) (t7 : Nat) (m22_1 m22_2 : Int) (m22_3 : List (List AV)) (t8 m22_0 : Int) (m26 : List (List AV)) : Bool := match r3nb cs t2 t3 t7 m22_1 m22_2 m22_3 t8 m22_0 m26 with
  | some (.x0 t2' _ _ _) => t2'
  | _ => default
noncomputable def v3nb_0_t8 (cs : List (List AV)) (t2 : Bool) (t3 : List (List AV)) (t7 : Nat) (m22_1 m22_2 : Int) (m22_3 : List (List AV)) (t8 m22_0 : Int) (m26 : List (List AV)) : Int := match r3nb cs t2 t3 t7 m22_1 m22_2 m22_3 t8 m22_0 m26 with
  | some (.x0 _ t8 _ _) => t8
  | _ => default
noncomputable def v3nb_0_m22_0 (cs : List (List AV)) (t2 : Bool) (t3 : List (List AV)) (t7 : Nat) (m22_1 m22_2 : Int) (m22_3 : List (List AV)) (t8 m22_0 : Int) (m26 : List (List AV)) : Int := match r3nb cs t2 t3 t7 m22_1 m22_2 m22_3 t8 m22_0 m26 with
  | some (.x0 _ _ m22_0 _) => m22_0
  | _ => default
noncomputable def v3nb_0_m26 (cs : List (List AV)) (t2 : Bool) (t3 : List (List AV)) (t7 : Nat) (m22_1 m22_2 : Int) (m22_3 : List (List AV)) (t8 m22_0 : Int) (m26 : List (List AV)) : List (List AV) := match r3nb cs t2 t3 t7 m22_1 m22_2 m22_3 t8 m22_0 m26 with
  | some (.x0 _ _ _ m26) => m26
  | _ => default
noncomputable def i3nb_1 (cs : List (List AV)) (t2 : Bool) (t3 : List (List AV)) (t7 : Nat) (m22_1 m22_2 : Int) (m22_3 : List (List AV)) (t8 m22_0 : Int) (m26 : List (List AV)) : Bool := match r3nb cs t2 t3 t7 m22_1 m22_2 m22_3 t8 m22_0 m26 with
  | some (.x1 _ _ _) => true
  | _ => false
noncomputable def v3nb_1_t8 (cs : List (List AV)) (t2 : Bool) (t3 : List (List AV)) (t7 : Nat) (m22_1 m22_2 : Int) (m22_3 : List (List AV)) (t8 m22_0 : Int) (m26 : List (List AV)) : Int := match r3nb cs t2 t3 t7 m22_1 m22_2 m22_3 t8 m22_0 m26 with
  | some (.x1 t8 _ _) => t8
  | _ => default
noncomputable def v3nb_1_m22_0 (cs : List (List AV)) (t2 : Bool) (t3 : List (List AV)) (t7 : Nat) (m22_1 m22_2 : Int) (m22_3 : List (List AV)) (t8 m22_0 : Int) (m26 : List (List AV)) : Int := match r3nb cs t2 t3 t7 m22_1 m22_2 m22_3 t8 m22_0 m26 with
  | some (.x1 _ m22_0 _) => m22_0
  | _ => default
noncomputable def v3nb_1_m26 (cs : List (List AV)) (t2 : Bool) (t3 : List (List AV)) (t7 : Nat) (m22_1 m22_2 : Int) (m22_3 : List (List AV)) (t8 m22_0 : Int) (m26 : List (List AV)) : List (List AV) := match r3nb cs t2 t3 t7 m22_1 m22_2 m22_3 t8 m22_0 m26 with
  | some (.x1 _ _ m26) => m26
  | _ => default
noncomputable def q3nb (cs : List (List AV)) (t2 : Bool) (t3 : List (List AV)) (t7 : Nat) (t8 m22_0 m22_1 m22_2 : Int) (m22_3 m26 : List (List AV)) : List (Bool × Ex × St) := [(i3nb_0 cs t2 t3 t7 m22_1 m22_2 m22_3 t8 m22_0 m26, .ret, o3nb_0 cs t2 t3 t7 m22_1 m22_2 m22_3 (v3nb_0_t2' cs t2 t3 t7 m22_1 m22_2 m22_3 t8 m22_0 m26) (v3nb_0_t8 cs t2 t3 t7 m22_1 m22_2 m22_3 t8 m22_0 m26) (v3nb_0_m22_0 cs t2 t3 t7 m22_1 m22_2 m22_3 t8 m22_0 m26) (v3nb_0_m26 cs t2 t3 t7 m22_1 m22_2 m22_3 t8 m22_0 m26)), (i3nb_1 cs t2 t3 t7 m22_1 m22_2 m22_3 t8 m22_0 m26, .ext 2, o3nb_1 cs t2 t3 t7 m22_1 m22_2 m22_3 (v3nb_1_t8 cs t2 t3 t7 m22_1 m22_2 m22_3 t8 m22_0 m26) (v3nb_1_m22_0 cs t2 t3 t7 m22_1 m22_2 m22_3 t8 m22_0 m26) (v3nb_1_m26 cs t2 t3 t7 m22_1 m22_2 m22_3 t8 m22_0 m26))]
noncomputable def l3nb (st : St) : Option (List (Bool × Ex × St)) := qget [.rp [.sl 43] [.rs 43] 0, .b, .rs 37, .p 22 0 0, .sl 26 0, .i .i64] [(0, .dead), (1, .dead), (2, .dead), (3, .dead), (4, .dead), (5, .dead), (6, .dead), (7, .dead), (8, .dead), (9, .dead), (10, .dead), (11, .dead), (12, .dead), (13, .dead), (14, .dead), (15, .dead), (16, .dead), (17, .dead), (18, .dead), (19, .dead), (20, .dead), (21, .dead), (22, .lrow 33 [.l [.i .i64, .i .i64, .i .i64, .gv 23 39]]), (23, .dead), (24, .dead), (25, .dead), (26, .rowv 3)] 27 229 (normW Try.prog [(1, none), (2, none), (3, none), (5, none), (7, none), (8, none)] 27 st) fun ls => q3nb (lLL ls 0) (lB ls 1) (lLL ls 2) (lN ls 3) (lI ls 4) (lI ls 5) (lI ls 6) (lI ls 7) (lLL ls 8) (lLL ls 9)
noncomputable def lp3nc : Code := loopAt c3n [true, true, true, true, true, true, true, true, true, false, true, false]
noncomputable def s3nc (t2 : Bool) (t3 : List (List AV)) (t7 : Nat) (t21 m22_0 m22_1 m22_2 : Int) (m22_3 m26 : List (List AV)) : St :=
  { t := [(2, .b t2), (3, .rs 37 t3), (7, .sl 26 0 t7), (21, .i .i64 t21)], m := [(0, .dead), (1, .dead), (2, .dead), (3, .dead), (4, .dead), (5, .dead), (6, .dead), (7, .dead), (8, .dead), (9, .dead), (10, .dead), (11, .dead), (12, .dead), (13, .dead), (14, .dead), (15, .dead), (16, .dead), (17, .dead), (18, .dead), (19, .dead), (20, .dead), (21, .dead), (22, .lrow 33 [[.i .i64 m22_0, .i .i64 m22_1, .i .i64 m22_2, .gv 23 39 m22_3]]), (23, .dead), (24, .dead), (25, .dead), (26, .row 3 m26)], nx := 27, nt := 229 }
structure S3nc where
  t21 : Int
inductive T3nc where
  | x0 (t2' : Bool) (t21 : Int)
  | x1 (t21 : Int)
noncomputable def stp3nc (t2 : Bool) (t3 : List (List AV)) (t7 : Nat) (m22_0 m22_1 m22_2 : Int) (m22_3 m26 : List (List AV)) (t21 : Int) : Lp S3nc T3nc :=
  cond (decide (t21 < (↑t3.length : Int))) (cond (inb t21 t3.length) (cond (inb t21 t7 && (0 + t21.toNat).blt m26.length) (cond ((0 + t21.toNat).blt m26.length) (cond (fI (t3.getD t21.toNat []) 4 != fI (m26.getD (0 + t21.toNat) []) 0) (.out (.x0 false t21)) (.go ⟨IntKind.i64.wrap (t21 + 1)⟩)) (.bad)) (.bad)) (.bad)) (.out (.x1 t21))
noncomputable def o3nc_0 (t2 : Bool) (t3 : List (List AV)) (t7 : Nat) (m22_0 m22_1 m22_2 : Int) (m22_3 m26 : List (List AV)) (t2' : Bool) (t21 : Int) : St :=
  { t := [(2, .b t2'), (3, .rs 37 t3), (7, .sl 26 0 t7), (21, .i .i64 t21)], m := [(0, .dead), (1, .dead), (2, .dead), (3, .dead), (4, .dead), (5, .dead), (6, .dead), (7, .dead), (8, .dead), (9, .dead), (10, .dead), (11, .dead), (12, .dead), (13, .dead), (14, .dead), (15, .dead), (16, .dead), (17, .dead), (18, .dead), (19, .dead), (20, .dead), (21, .dead), (22, .lrow 33 [[.i .i64 m22_0, .i .i64 m22_1, .i .i64 m22_2, .gv 23 39 m22_3]]), (23, .dead), (24, .dead), (25, .dead), (26, .row 3 m26)], nx := 27, nt := 229 }
noncomputable def o3nc_1 (t2 : Bool) (t3 : List (List AV)) (t7 : Nat) (m22_0 m22_1 m22_2 : Int) (m22_3 m26 : List (List AV)) (t21 : Int) : St :=
  { t := [(2, .b t2), (3, .rs 37 t3), (7, .sl 26 0 t7), (21, .i .i64 t21)], m := [(0, .dead), (1, .dead), (2, .dead), (3, .dead), (4, .dead), (5, .dead), (6, .dead), (7, .dead), (8, .dead), (9, .dead), (10, .dead), (11, .dead), (12, .dead), (13, .dead), (14, .dead), (15, .dead), (16, .dead), (17, .dead), (18, .dead), (19, .dead), (20, .dead), (21, .dead), (22, .lrow 33 [[.i .i64 m22_0, .i .i64 m22_1, .i .i64 m22_2, .gv 23 39 m22_3]]), (23, .dead), (24, .dead), (25, .dead), (26, .row 3 m26)], nx := 27, nt := 229 }
noncomputable def ou3nc (t2 : Bool) (t3 : List (List AV)) (t7 : Nat) (m22_0 m22_1 m22_2 : Int) (m22_3 m26 : List (List AV)) : T3nc → Ex × St
  | .x0 t2' t21 => (.ret, o3nc_0 t2 t3 t7 m22_0 m22_1 m22_2 m22_3 m26 t2' t21)
  | .x1 t21 => (.ext 10, o3nc_1 t2 t3 t7 m22_0 m22_1 m22_2 m22_3 m26 t21)
noncomputable def r3nc (t2 : Bool) (t3 : List (List AV)) (t7 : Nat) (m22_0 m22_1 m22_2 : Int) (m22_3 m26 : List (List AV)) (t21 : Int) : Option T3nc := run (fun x => stp3nc t2 t3 t7 m22_0 m22_1 m22_2 m22_3 m26 x.t21) (⟨t21⟩ : S3nc)
noncomputable def i3nc_0 (t2 : Bool) (t3 : List (List AV)) (t7 : Nat) (m22_0 m22_1 m22_2 : Int) (m22_3 m26 : List (List AV)) (t21 : Int) : Bool := match r3nc t2 t3 t7 m22_0 m22_1 m22_2 m22_3 m26 t21 with
  | some (.x0 _ _) => true
  | _ => false
noncomputable def v3nc_0_t2' (t2 : Bool) (t3 : List (List AV)) (t7 : Nat) (m22_0 m22_1 m22_2 : Int) (m22_3 m26 : List (List AV)) (t21 : Int) : Bool := match r3nc t2 t3 t7 m22_0 m22_1 m22_2 m22_3 m26 t21 with
  | some (.x0 t2' _) => t2'
  | _ => default
noncomputable def v3nc_0_t21 (t2 : Bool) (t3 : List (List AV)) (t7 : Nat) (m22_0 m22_1 m22_2 : Int) (m22_3 m26 : List (List AV)) (t21 : Int) : Int := match r3nc t2 t3 t7 m22_0 m22_1 m22_2 m22_3 m26 t21 with
  | some (.x0 _ t21) => t21
  | _ => default
noncomputable def i3nc_1 (t2 : Bool) (t3 : List (List AV)) (t7 : Nat) (m22_0 m22_1 m22_2 : Int) (m22_3 m26 : List (List AV)) (t21 : Int) : Bool := match r3nc t2 t3 t7 m22_0 m22_1 m22_2 m22_3 m26 t21 with
  | some (.x1 _) => true
  | _ => false
noncomputable def v3nc_1_t21 (t2 : Bool) (t3 : List (List AV)) (t7 : Nat) (m22_0 m22_1 m22_2 : Int) (m22_3 m26 : List (List AV)) (t21 : Int) : Int := match r3nc t2 t3 t7 m22_0 m22_1 m22_2 m22_3 m26 t21 with
  | some (.x1 t21) => t21
  | _ => default
noncomputable def q3nc (t2 : Bool) (t3 : List (List AV)) (t7 : Nat) (t21 m22_0 m22_1 m22_2 : Int) (m22_3 m26 : List (List AV)) : List (Bool × Ex × St) := [(i3nc_0 t2 t3 t7 m22_0 m22_1 m22_2 m22_3 m26 t21, .ret, o3nc_0 t2 t3 t7 m22_0 m22_1 m22_2 m22_3 m26 (v3nc_0_t2' t2 t3 t7 m22_0 m22_1 m22_2 m22_3 m26 t21) (v3nc_0_t21 t2 t3 t7 m22_0 m22_1 m22_2 m22_3 m26 t21)), (i3nc_1 t2 t3 t7 m22_0 m22_1 m22_2 m22_3 m26 t21, .ext 10, o3nc_1 t2 t3 t7 m22_0 m22_1 m22_2 m22_3 m26 (v3nc_1_t21 t2 t3 t7 m22_0 m22_1 m22_2 m22_3 m26 t21))]
noncomputable def l3nc (st : St) : Option (List (Bool × Ex × St)) := qget [.b, .rs 37, .sl 26 0, .i .i64] [(0, .dead), (1, .dead), (2, .dead), (3, .dead), (4, .dead), (5, .dead), (6, .dead), (7, .dead), (8, .dead), (9, .dead), (10, .dead), (11, .dead), (12, .dead), (13, .dead), (14, .dead), (15, .dead), (16, .dead), (17, .dead), (18, .dead), (19, .dead), (20, .dead), (21, .dead), (22, .lrow 33 [.l [.i .i64, .i .i64, .i .i64, .gv 23 39]]), (23, .dead), (24, .dead), (25, .dead), (26, .rowv 3)] 27 229 (normW Try.prog [(2, none), (3, none), (7, none), (21, none)] 27 st) fun ls => q3nc (lB ls 0) (lLL ls 1) (lN ls 2) (lI ls 3) (lI ls 4) (lI ls 5) (lI ls 6) (lLL ls 7) (lLL ls 8)
noncomputable def L3n : LSpec := fun p st => match p with
  | [false, true, false, true, true, true, true, true, true] => l3na st
  | [false, true, false, true, true, false, false, true, false, false, true, false, true, true, false, false, true, false, false, true, false, true, true, true, true, true, true, true, true] => l3nbaa st
  | [false, true, false, true, true, false, false, true, false, false, true, false, true, true, true, true, true, true, true, true] => l3nba st
  | [false, true, false, true, true, true, true, true, true, true, false, false, true, false, false, true, false, true, true, true, true, true, true, true, true] => l3nbb st
  | [false, true, false, true, true, true, true, true, true, true, true] => l3nb st
  | [false, true, false, true, true, true, true, true, true, true, true, true] => l3nc st
  | _ => none
theorem is3na_0 (cs : List (List AV)) (t2 : Bool) (t3 : List (List AV)) (m22_0 m22_1 m22_2 t6 : Int) (m22_3 : List (List AV)) (h : i3na_0 cs t2 t3 m22_0 m22_1 m22_2 t6 m22_3 = true) : r3na cs t2 t3 m22_0 m22_1 m22_2 t6 m22_3 = some (.x0 (v3na_0_t6 cs t2 t3 m22_0 m22_1 m22_2 t6 m22_3) (v3na_0_m22_3 cs t2 t3 m22_0 m22_1 m22_2 t6 m22_3)) := by
  unfold i3na_0 at h
  unfold v3na_0_t6 v3na_0_m22_3
  generalize r3na cs t2 t3 m22_0 m22_1 m22_2 t6 m22_3 = r at h ⊢
  rcases r with _ | y
  · cases h
  · cases y <;> first | rfl | cases h
theorem round3na (cs : List (List AV)) (t2 : Bool) (t3 : List (List AV)) (t6 m22_0 m22_1 m22_2 : Int) (m22_3 : List (List AV)) : round Try.prog SN9 ro3 L3n lp3na [false, true, false, true, true, true, true, true, true] [(1, none), (2, none), (3, none), (5, none), (6, none), (1002203, some 39)] 23 (s3na cs t2 t3 t6 m22_0 m22_1 m22_2 m22_3) =
    cond (decide (t6 < (↑t3.length : Int))) (cond (decide (1 + (Utf8.encode (IntKind.i32.wrap (IntKind.i64.wrap (97 + t6)))).size ≤ 140737488355328)) (cond (inb t6 t3.length) (cond ((m22_3.length + [[AV.s ((⟨#[112]⟩ : ByteArray) ++ Utf8.encode (IntKind.i32.wrap (IntKind.i64.wrap (97 + t6)))), AV.i IntKind.i64 (fI (t3.getD t6.toNat []) 0), AV.i IntKind.i64 0, AV.i IntKind.i64 0, AV.i IntKind.i64 t6]].length).ble 9223372036854775807 && true) (cond (((m22_3.length + [[AV.s ((⟨#[112]⟩ : ByteArray) ++ Utf8.encode (IntKind.i32.wrap (IntKind.i64.wrap (97 + t6)))), AV.i IntKind.i64 (fI (t3.getD t6.toNat []) 0), AV.i IntKind.i64 0, AV.i IntKind.i64 0, AV.i IntKind.i64 t6]].length) * 48).ble 140737488355328) (some (.nrm, s3na cs t2 t3 (IntKind.i64.wrap (t6 + 1)) m22_0 m22_1 m22_2 (m22_3 ++ [[AV.s ((⟨#[112]⟩ : ByteArray) ++ Utf8.encode (IntKind.i32.wrap (IntKind.i64.wrap (97 + t6)))), AV.i IntKind.i64 (fI (t3.getD t6.toNat []) 0), AV.i IntKind.i64 0, AV.i IntKind.i64 0, AV.i IntKind.i64 t6]]))) (none)) (none)) (none)) (none)) (some (.ext 0, o3na_0 cs t2 t3 m22_0 m22_1 m22_2 t6 m22_3)) := by kernel_rfl
theorem rnd3na (cs : List (List AV)) (t2 : Bool) (t3 : List (List AV)) (m22_0 m22_1 m22_2 : Int) (x : S3na) : round Try.prog SN9 ro3 L3n lp3na [false, true, false, true, true, true, true, true, true] [(1, none), (2, none), (3, none), (5, none), (6, none), (1002203, some 39)] 23 ((fun x => s3na cs t2 t3 x.t6 m22_0 m22_1 m22_2 x.m22_3) x) = toR (fun x => s3na cs t2 t3 x.t6 m22_0 m22_1 m22_2 x.m22_3) (ou3na cs t2 t3 m22_0 m22_1 m22_2) (stp3na cs t2 t3 m22_0 m22_1 m22_2 x.t6 x.m22_3) := by
  refine (round3na _ _ _ _ _ _ _ _ ).trans ?_
  unfold stp3na
  simp only [toR_cond]
  rfl
theorem lokb3na (cs : List (List AV)) (t2 : Bool) (t3 : List (List AV)) (t6 m22_0 m22_1 m22_2 : Int) (m22_3 : List (List AV)) {e : Ex} {s : St} (hch : Chosen (q3na cs t2 t3 t6 m22_0 m22_1 m22_2 m22_3) e s) : LB Try.prog SN9 ro3 L3n lp3na [false, true, false, true, true, true, true, true, true] [(1, none), (2, none), (3, none), (5, none), (6, none), (1002203, some 39)] 23 (s3na cs t2 t3 t6 m22_0 m22_1 m22_2 m22_3) e s := by
  unfold q3na at hch
  have main := fun y h => LB_run (x := (⟨t6, m22_3⟩ : S3na)) (y := y) (nb := 23) (fun y => by cases y <;> simp [ou3na]) (rnd3na cs t2 t3 m22_0 m22_1 m22_2) h
  obtain ⟨x, hx, hg, rfl, rfl⟩ := chosen_any hch
  simp only [List.mem_cons, List.not_mem_nil, or_false] at hx
  subst hx
  exact main _ (is3na_0 cs t2 t3 m22_0 m22_1 m22_2 t6 m22_3 hg)
theorem lok3na {st : St} {outs : List (Bool × Ex × St)} {e : Ex} {s : St} (hl : l3na st = some outs) (hch : Chosen outs e s) :
    ∃ keep nb, 0 ≤ nb ∧ LB Try.prog SN9 ro3 L3n lp3na [false, true, false, true, true, true, true, true, true] keep nb st e s := by
  unfold l3na at hl
  obtain ⟨ls, hno, rfl⟩ := qget_some hl
  have hno := normW_norm hno
  refine ⟨_, _, ?_, .enterQ hno (s2 := s3na (lLL ls 0) (lB ls 1) (lLL ls 2) (lI ls 3) (lI ls 4) (lI ls 5) (lI ls 6) (lLL ls 7)) (by kernel_rfl) (lokb3na _ _ _ _ _ _ _ _ hch)⟩
  decide
theorem is3nbaa_0 (cs : List (List AV)) (t2 : Bool) (t3 : List (List AV)) (t7 : Nat) (t8 : Int) (t9 : List (List AV)) (t10 m22_0 m22_1 m22_2 : Int) (m22_3 m26 : List (List AV)) (m46_0 m46_1 m46_2 m46_3 m46_4 m46_5 t12 t13 : Int) (h : i3nbaa_0 cs t2 t3 t7 t8 t9 t10 m22_0 m22_1 m22_2 m22_3 m26 m46_0 m46_1 m46_2 m46_3 m46_4 m46_5 t12 t13 = true) : r3nbaa cs t2 t3 t7 t8 t9 t10 m22_0 m22_1 m22_2 m22_3 m26 m46_0 m46_1 m46_2 m46_3 m46_4 m46_5 t12 t13 = some (.x0 (v3nbaa_0_t12 cs t2 t3 t7 t8 t9 t10 m22_0 m22_1 m22_2 m22_3 m26 m46_0 m46_1 m46_2 m46_3 m46_4 m46_5 t12 t13) (v3nbaa_0_t13 cs t2 t3 t7 t8 t9 t10 m22_0 m22_1 m22_2 m22_3 m26 m46_0 m46_1 m46_2 m46_3 m46_4 m46_5 t12 t13)) := by
  unfold i3nbaa_0 at h
  unfold v3nbaa_0_t12 v3nbaa_0_t13
  generalize r3nbaa cs t2 t3 t7 t8 t9 t10 m22_0 m22_1 m22_2 m22_3 m26 m46_0 m46_1 m46_2 m46_3 m46_4 m46_5 t12 t13 = r at h ⊢
  rcases r with _ | y
  · cases h
  · cases y <;> first | rfl | cases h
theorem round3nbaa (cs : List (List AV)) (t2 : Bool) (t3 : List (List AV)) (t7 : Nat) (t8 : Int) (t9 : List (List AV)) (t10 t12 t13 m22_0 m22_1 m22_2 : Int) (m22_3 m26 : List (List AV)) (m46_0 m46_1 m46_2 m46_3 m46_4 m46_5 : Int) : round Try.prog SN9 ro3 L3n lp3nbaa [false, true, false, true, true, false, false, true, false, false, true, false, true, true, false, false, true, false, false, true, false, true, true, true, true, true, true, true, true] [(1, none), (2, none), (3, none), (5, none), (7, none), (8, none), (9, some 3), (10, none), (11, none), (12, none), (13, none)] 47 (s3nbaa cs t2 t3 t7 t8 t9 t10 t12 t13 m22_0 m22_1 m22_2 m22_3 m26 m46_0 m46_1 m46_2 m46_3 m46_4 m46_5) =
    cond (decide (t13 < (↑t3.length : Int))) (cond (inb t13 t3.length) (cond (fI (t3.getD t13.toNat []) 0 == m46_1 && (fI (t3.getD t13.toNat []) 1 == m46_2 && (fI (t3.getD t13.toNat []) 2 == m46_4 && fI (t3.getD t13.toNat []) 3 == m46_5))) (some (.nrm, s3nbaa cs t2 t3 t7 t8 t9 t10 t13 (IntKind.i64.wrap (t13 + 1)) m22_0 m22_1 m22_2 m22_3 m26 m46_0 m46_1 m46_2 m46_3 m46_4 m46_5)) (some (.nrm, s3nbaa cs t2 t3 t7 t8 t9 t10 t12 (IntKind.i64.wrap (t13 + 1)) m22_0 m22_1 m22_2 m22_3 m26 m46_0 m46_1 m46_2 m46_3 m46_4 m46_5))) (none)) (some (.ext 6, o3nbaa_0 cs t2 t3 t7 t8 t9 t10 m22_0 m22_1 m22_2 m22_3 m26 m46_0 m46_1 m46_2 m46_3 m46_4 m46_5 t12 t13)) := by kernel_rfl
theorem rnd3nbaa (cs : List (List AV)) (t2 : Bool) (t3 : List (List AV)) (t7 : Nat) (t8 : Int) (t9 : List (List AV)) (t10 m22_0 m22_1 m22_2 : Int) (m22_3 m26 : List (List AV)) (m46_0 m46_1 m46_2 m46_3 m46_4 m46_5 : Int) (x : S3nbaa) : round Try.prog SN9 ro3 L3n lp3nbaa [false, true, false, true, true, false, false, true, false, false, true, false, true, true, false, false, true, false, false, true, false, true, true, true, true, true, true, true, true] [(1, none), (2, none), (3, none), (5, none), (7, none), (8, none), (9, some 3), (10, none), (11, none), (12, none), (13, none)] 47 ((fun x => s3nbaa cs t2 t3 t7 t8 t9 t10 x.t12 x.t13 m22_0 m22_1 m22_2 m22_3 m26 m46_0 m46_1 m46_2 m46_3 m46_4 m46_5) x) = toR (fun x => s3nbaa cs t2 t3 t7 t8 t9 t10 x.t12 x.t13 m22_0 m22_1 m22_2 m22_3 m26 m46_0 m46_1 m46_2 m46_3 m46_4 m46_5) (ou3nbaa cs t2 t3 t7 t8 t9 t10 m22_0 m22_1 m22_2 m22_3 m26 m46_0 m46_1 m46_2 m46_3 m46_4 m46_5) (stp3nbaa cs t2 t3 t7 t8 t9 t10 m22_0 m22_1 m22_2 m22_3 m26 m46_0 m46_1 m46_2 m46_3 m46_4 m46_5 x.t12 x.t13) := by
  refine (round3nbaa _ _ _ _ _ _ _ _ _ _ _ _ _ _ _ _ _ _ _ _ ).trans ?_
  unfold stp3nbaa
  simp only [toR_cond]
  rfl
theorem lokb3nbaa (cs : List (List AV)) (t2 : Bool) (t3 : List (List AV)) (t7 : Nat) (t8 : Int) (t9 : List (List AV)) (t10 t12 t13 m22_0 m22_1 m22_2 : Int) (m22_3 m26 : List (List AV)) (m46_0 m46_1 m46_2 m46_3 m46_4 m46_5 : Int) {e : Ex} {s : St} (hch : Chosen (q3nbaa cs t2 t3 t7 t8 t9 t10 t12 t13 m22_0 m22_1 m22_2 m22_3 m26 m46_0 m46_1 m46_2 m46_3 m46_4 m46_5) e s) : LB Try.prog SN9 ro3 L3n lp3nbaa [false, true, false, true, true, false, false, true, false, false, true, false, true, true, false, false, true, false, false, true, false, true, true, true, true, true, true, true, true] [(1, none), (2, none), (3, none), (5, none), (7, none), (8, none), (9, some 3), (10, none), (11, none), (12, none), (13, none)] 47 (s3nbaa cs t2 t3 t7 t8 t9 t10 t12 t13 m22_0 m22_1 m22_2 m22_3 m26 m46_0 m46_1 m46_2 m46_3 m46_4 m46_5) e s := by
  unfold q3nbaa at hch
  have main := fun y h => LB_run (x := (⟨t12, t13⟩ : S3nbaa)) (y := y) (nb := 47) (fun y => by cases y <;> simp [ou3nbaa]) (rnd3nbaa cs t2 t3 t7 t8 t9 t10 m22_0 m22_1 m22_2 m22_3 m26 m46_0 m46_1 m46_2 m46_3 m46_4 m46_5) h
  obtain ⟨x, hx, hg, rfl, rfl⟩ := chosen_any hch
  simp only [List.mem_cons, List.not_mem_nil, or_false] at hx
  subst hx
  exact main _ (is3nbaa_0 cs t2 t3 t7 t8 t9 t10 m22_0 m22_1 m22_2 m22_3 m26 m46_0 m46_1 m46_2 m46_3 m46_4 m46_5 t12 t13 hg)
theorem lok3nbaa {st : St} {outs : List (Bool × Ex × St)} {e : Ex} {s : St} (hl : l3nbaa st = some outs) (hch : Chosen outs e s) :
    ∃ keep nb, 0 ≤ nb ∧ LB Try.prog SN9 ro3 L3n lp3nbaa [false, true, false, true, true, false, false, true, false, false, true, false, true, true, false, false, true, false, false, true, false, true, true, true, true, true, true, true, true] keep nb st e s := by
  unfold l3nbaa at hl
  obtain ⟨ls, hno, rfl⟩ := qget_some hl
  have hno := normW_norm hno
  refine ⟨_, _, ?_, .enterQ hno (s2 := s3nbaa (lLL ls 0) (lB ls 1) (lLL ls 2) (lN ls 3) (lI ls 4) (lLL ls 5) (lI ls 6) (lI ls 7) (lI ls 8) (lI ls 9) (lI ls 10) (lI ls 11) (lLL ls 12) (lLL ls 13) (lI ls 14) (lI ls 15) (lI ls 16) (lI ls 17) (lI ls 18) (lI ls 19)) (by kernel_rfl) (lokb3nbaa _ _ _ _ _ _ _ _ _ _ _ _ _ _ _ _ _ _ _ _ hch)⟩
  decide
theorem is3nba_0 (cs : List (List AV)) (t2 : Bool) (t3 : List (List AV)) (t7 : Nat) (t8 m22_1 m22_2 : Int) (m22_3 m26 t9 : List (List AV)) (t10 m22_0 : Int) (h : i3nba_0 cs t2 t3 t7 t8 m22_1 m22_2 m22_3 m26 t9 t10 m22_0 = true) : r3nba cs t2 t3 t7 t8 m22_1 m22_2 m22_3 m26 t9 t10 m22_0 = some (.x0 (v3nba_0_t2' cs t2 t3 t7 t8 m22_1 m22_2 m22_3 m26 t9 t10 m22_0) (v3nba_0_t9 cs t2 t3 t7 t8 m22_1 m22_2 m22_3 m26 t9 t10 m22_0) (v3nba_0_t10 cs t2 t3 t7 t8 m22_1 m22_2 m22_3 m26 t9 t10 m22_0) (v3nba_0_m22_0 cs t2 t3 t7 t8 m22_1 m22_2 m22_3 m26 t9 t10 m22_0)) := by
  unfold i3nba_0 at h
  unfold v3nba_0_t2' v3nba_0_t9 v3nba_0_t10 v3nba_0_m22_0
  generalize r3nba cs t2 t3 t7 t8 m22_1 m22_2 m22_3 m26 t9 t10 m22_0 = r at h ⊢
  rcases r with _ | y
  · cases h
  · cases y <;> first | rfl | cases h
theorem is3nba_1 (cs : List (List AV)) (t2 : Bool) (t3 : List (List AV)) (t7 : Nat) (t8 m22_1 m22_2 : Int) (m22_3 m26 t9 : List (List AV)) (t10 m22_0 : Int) (h : i3nba_1 cs t2 t3 t7 t8 m22_1 m22_2 m22_3 m26 t9 t10 m22_0 = true) : r3nba cs t2 t3 t7 t8 m22_1 m22_2 m22_3 m26 t9 t10 m22_0 = some (.x1 (v3nba_1_t9 cs t2 t3 t7 t8 m22_1 m22_2 m22_3 m26 t9 t10 m22_0) (v3nba_1_t10 cs t2 t3 t7 t8 m22_1 m22_2 m22_3 m26 t9 t10 m22_0) (v3nba_1_m22_0 cs t2 t3 t7 t8 m22_1 m22_2 m22_3 m26 t9 t10 m22_0)) := by
  unfold i3nba_1 at h
  unfold v3nba_1_t9 v3nba_1_t10 v3nba_1_m22_0
  generalize r3nba cs t2 t3 t7 t8 m22_1 m22_2 m22_3 m26 t9 t10 m22_0 = r at h ⊢
  rcases r with _ | y
  · cases h
  · cases y <;> first | rfl | cases h
theorem round3nba (cs : List (List AV)) (t2 : Bool) (t3 : List (List AV)) (t7 : Nat) (t8 : Int) (t9 : List (List AV)) (t10 m22_0 m22_1 m22_2 : Int) (m22_3 m26 : List (List AV)) : round Try.prog SN9 ro3 L3n lp3nba [false, true, false, true, true, false, false, true, false, false, true, false, true, true, true, true, true, true, true, true] [(1, none), (2, none), (3, none), (5, none), (7, none), (8, none), (9, some 3), (10, none)] 27 (s3nba cs t2 t3 t7 t8 t9 t10 m22_0 m22_1 m22_2 m22_3 m26) =
    cond (inb t8 cs.length) (cond (decide (t10 < (↑(fE (cs.getD t8.toNat []) 1).length : Int))) (cond (inb t8 cs.length) (cond (inb t10 (fE (cs.getD t8.toNat []) 1).length) (cond (i3nbaa_0 cs t2 t3 t7 t8 t9 t10 m22_0 m22_1 m22_2 m22_3 m26 (fI ((fE (cs.getD t8.toNat []) 1).getD t10.toNat []) 0) (fI ((fE (cs.getD t8.toNat []) 1).getD t10.toNat []) 1) (fI ((fE (cs.getD t8.toNat []) 1).getD t10.toNat []) 2) (fI ((fE (cs.getD t8.toNat []) 1).getD t10.toNat []) 3) (fI ((fE (cs.getD t8.toNat []) 1).getD t10.toNat []) 4) (fI ((fE (cs.getD t8.toNat []) 1).getD t10.toNat []) 5) (-1) 0) (cond (decide (v3nbaa_0_t12 cs t2 t3 t7 t8 t9 t10 m22_0 m22_1 m22_2 m22_3 m26 (fI ((fE (cs.getD t8.toNat []) 1).getD t10.toNat []) 0) (fI ((fE (cs.getD t8.toNat []) 1).getD t10.toNat []) 1) (fI ((fE (cs.getD t8.toNat []) 1).getD t10.toNat []) 2) (fI ((fE (cs.getD t8.toNat []) 1).getD t10.toNat []) 3) (fI ((fE (cs.getD t8.toNat []) 1).getD t10.toNat []) 4) (fI ((fE (cs.getD t8.toNat []) 1).getD t10.toNat []) 5) (-1) 0 < 0)) (some (.ret, o3nba_0 cs t2 t3 t7 t8 m22_1 m22_2 m22_3 m26 false t9 t10 m22_0)) (cond ((t9.length + [[AV.i IntKind.i64 (v3nbaa_0_t12 cs t2 t3 t7 t8 t9 t10 m22_0 m22_1 m22_2 m22_3 m26 (fI ((fE (cs.getD t8.toNat []) 1).getD t10.toNat []) 0) (fI ((fE (cs.getD t8.toNat []) 1).getD t10.toNat []) 1) (fI ((fE (cs.getD t8.toNat []) 1).getD t10.toNat []) 2) (fI ((fE (cs.getD t8.toNat []) 1).getD t10.toNat []) 3) (fI ((fE (cs.getD t8.toNat []) 1).getD t10.toNat []) 4) (fI ((fE (cs.getD t8.toNat []) 1).getD t10.toNat []) 5) (-1) 0)]].length).ble 9223372036854775807 && true) (cond (((t9.length + [[AV.i IntKind.i64 (v3nbaa_0_t12 cs t2 t3 t7 t8 t9 t10 m22_0 m22_1 m22_2 m22_3 m26 (fI ((fE (cs.getD t8.toNat []) 1).getD t10.toNat []) 0) (fI ((fE (cs.getD t8.toNat []) 1).getD t10.toNat []) 1) (fI ((fE (cs.getD t8.toNat []) 1).getD t10.toNat []) 2) (fI ((fE (cs.getD t8.toNat []) 1).getD t10.toNat []) 3) (fI ((fE (cs.getD t8.toNat []) 1).getD t10.toNat []) 4) (fI ((fE (cs.getD t8.toNat []) 1).getD t10.toNat []) 5) (-1) 0)]].length) * 8).ble 140737488355328) (some (.nrm, s3nba cs t2 t3 t7 t8 (t9 ++ [[AV.i IntKind.i64 (v3nbaa_0_t12 cs t2 t3 t7 t8 t9 t10 m22_0 m22_1 m22_2 m22_3 m26 (fI ((fE (cs.getD t8.toNat []) 1).getD t10.toNat []) 0) (fI ((fE (cs.getD t8.toNat []) 1).getD t10.toNat []) 1) (fI ((fE (cs.getD t8.toNat []) 1).getD t10.toNat []) 2) (fI ((fE (cs.getD t8.toNat []) 1).getD t10.toNat []) 3) (fI ((fE (cs.getD t8.toNat []) 1).getD t10.toNat []) 4) (fI ((fE (cs.getD t8.toNat []) 1).getD t10.toNat []) 5) (-1) 0)]]) (IntKind.i64.wrap (t10 + 1)) (IntKind.i64.wrap (m22_0 + fI ((fE (cs.getD t8.toNat []) 1).getD t10.toNat []) 1)) m22_1 m22_2 m22_3 m26)) (none)) (none))) (none)) (none)) (none)) (some (.ext 4, o3nba_1 cs t2 t3 t7 t8 m22_1 m22_2 m22_3 m26 t9 t10 m22_0))) (none) := by kernel_rfl
theorem rnd3nba (cs : List (List AV)) (t2 : Bool) (t3 : List (List AV)) (t7 : Nat) (t8 m22_1 m22_2 : Int) (m22_3 m26 : List (List AV)) (x : S3nba) : round Try.prog SN9 ro3 L3n lp3nba [false, true, false, true, true, false, false, true, false, false, true, false, true, true, true, true, true, true, true, true] [(1, none), (2, none), (3, none), (5, none), (7, none), (8, none), (9, some 3), (10, none)] 27 ((fun x => s3nba cs t2 t3 t7 t8 x.t9 x.t10 x.m22_0 m22_1 m22_2 m22_3 m26) x) = toR (fun x => s3nba cs t2 t3 t7 t8 x.t9 x.t10 x.m22_0 m22_1 m22_2 m22_3 m26) (ou3nba cs t2 t3 t7 t8 m22_1 m22_2 m22_3 m26) (stp3nba cs t2 t3 t7 t8 m22_1 m22_2 m22_3 m26 x.t9 x.t10 x.m22_0) := by
  refine (round3nba _ _ _ _ _ _ _ _ _ _ _ _ ).trans ?_
  unfold stp3nba
  simp only [toR_cond]
  rfl
theorem lokb3nba (cs : List (List AV)) (t2 : Bool) (t3 : List (List AV)) (t7 : Nat) (t8 : Int) (t9 : List (List AV)) (t10 m22_0 m22_1 m22_2 : Int) (m22_3 m26 : List (List AV)) {e : Ex} {s : St} (hch : Chosen (q3nba cs t2 t3 t7 t8 t9 t10 m22_0 m22_1 m22_2 m22_3 m26) e s) : LB Try.prog SN9 ro3 L3n lp3nba [false, true, false, true, true, false, false, true, false, false, true, false, true, true, true, true, true, true, true, true] [(1, none), (2, none), (3, none), (5, none), (7, none), (8, none), (9, some 3), (10, none)] 27 (s3nba cs t2 t3 t7 t8 t9 t10 m22_0 m22_1 m22_2 m22_3 m26) e s := by
  unfold q3nba at hch
  have main := fun y h => LB_run (x := (⟨t9, t10, m22_0⟩ : S3nba)) (y := y) (nb := 27) (fun y => by cases y <;> simp [ou3nba]) (rnd3nba cs t2 t3 t7 t8 m22_1 m22_2 m22_3 m26) h
  obtain ⟨x, hx, hg, rfl, rfl⟩ := chosen_any hch
  simp only [List.mem_cons, List.not_mem_nil, or_false] at hx
  rcases hx with rfl | rfl
  · exact main _ (is3nba_0 cs t2 t3 t7 t8 m22_1 m22_2 m22_3 m26 t9 t10 m22_0 hg)
  · exact main _ (is3nba_1 cs t2 t3 t7 t8 m22_1 m22_2 m22_3 m26 t9 t10 m22_0 hg)
theorem lok3nba {st : St} {outs : List (Bool × Ex × St)} {e : Ex} {s : St} (hl : l3nba st = some outs) (hch : Chosen outs e s) :
    ∃ keep nb, 0 ≤ nb ∧ LB Try.prog SN9 ro3 L3n lp3nba [false, true, false, true, true, false, false, true, false, false, true, false, true, true, true, true, true, true, true, true] keep nb st e s := by
  unfold l3nba at hl
  obtain ⟨ls, hno, rfl⟩ := qget_some hl
  have hno := normW_norm hno
  refine ⟨_, _, ?_, .enterQ hno (s2 := s3nba (lLL ls 0) (lB ls 1) (lLL ls 2) (lN ls 3) (lI ls 4) (lLL ls 5) (lI ls 6) (lI ls 7) (lI ls 8) (lI ls 9) (lLL ls 10) (lLL ls 11)) (by kernel_rfl) (lokb3nba _ _ _ _ _ _ _ _ _ _ _ _ hch)⟩
  decide
theorem is3nbb_0 (cs : List (List AV)) (t2 : Bool) (t3 : List (List AV)) (t7 : Nat) (t8 : Int) (t9 : List (List AV)) (t15 : Int) (t16 : List (List AV)) (t17 m22_0 m22_1 m22_2 : Int) (m22_3 : List (List AV)) (t18 : Int) (m26 : List (List AV)) (h : i3nbb_0 cs t2 t3 t7 t8 t9 t15 t16 t17 m22_0 m22_1 m22_2 m22_3 t18 m26 = true) : r3nbb cs t2 t3 t7 t8 t9 t15 t16 t17 m22_0 m22_1 m22_2 m22_3 t18 m26 = some (.x0 (v3nbb_0_t18 cs t2 t3 t7 t8 t9 t15 t16 t17 m22_0 m22_1 m22_2 m22_3 t18 m26) (v3nbb_0_m26 cs t2 t3 t7 t8 t9 t15 t16 t17 m22_0 m22_1 m22_2 m22_3 t18 m26)) := by
  unfold i3nbb_0 at h
  unfold v3nbb_0_t18 v3nbb_0_m26
  generalize r3nbb cs t2 t3 t7 t8 t9 t15 t16 t17 m22_0 m22_1 m22_2 m22_3 t18 m26 = r at h ⊢
  rcases r with _ | y
  · cases h
  · cases y <;> first | rfl | cases h
theorem round3nbb (cs : List (List AV)) (t2 : Bool) (t3 : List (List AV)) (t7 : Nat) (t8 : Int) (t9 : List (List AV)) (t15 : Int) (t16 : List (List AV)) (t17 t18 m22_0 m22_1 m22_2 : Int) (m22_3 m26 : List (List AV)) : round Try.prog SN9 ro3 L3n lp3nbb [false, true, false, true, true, true, true, true, true, true, false, false, true, false, false, true, false, true, true, true, true, true, true, true, true] [(1, none), (2, none), (3, none), (5, none), (7, none), (8, none), (9, some 3), (15, none), (16, none), (17, none), (18, none)] 27 (s3nbb cs t2 t3 t7 t8 t9 t15 t16 t17 t18 m22_0 m22_1 m22_2 m22_3 m26) =
    cond (decide (t18 < (↑t7 : Int))) (cond (inb t18 t7 && (0 + t18.toNat).blt m26.length) (cond ((0 + t18.toNat).blt m26.length) (cond (inb t18 t16.length) (cond (inb t18 t7 && (0 + t18.toNat).blt m26.length) (cond ((0 + t18.toNat).blt m26.length) (some (.nrm, s3nbb cs t2 t3 t7 t8 t9 t15 t16 t17 (IntKind.i64.wrap (t18 + 1)) m22_0 m22_1 m22_2 m22_3 (m26.set (0 + t18.toNat) (setCs (m26.getD (0 + t18.toNat) []) 0 [AV.i IntKind.i64 (IntKind.i64.wrap (fI (m26.getD (0 + t18.toNat) []) 0 + fI (t16.getD t18.toNat []) 0))])))) (none)) (none)) (none)) (none)) (none)) (some (.ext 8, o3nbb_0 cs t2 t3 t7 t8 t9 t15 t16 t17 m22_0 m22_1 m22_2 m22_3 t18 m26)) := by kernel_rfl
theorem rnd3nbb (cs : List (List AV)) (t2 : Bool) (t3 : List (List AV)) (t7 : Nat) (t8 : Int) (t9 : List (List AV)) (t15 : Int) (t16 : List (List AV)) (t17 m22_0 m22_1 m22_2 : Int) (m22_3 : List (List AV)) (x : S3nbb) : round Try.prog SN9 ro3 L3n lp3nbb [false, true, false, true, true, true, true, true, true, true, false, false, true, false, false, true, false, true, true, true, true, true, true, true, true] [(1, none), (2, none), (3, none), (5, none), (7, none), (8, none), (9, some 3), (15, none), (16, none), (17, none), (18, none)] 27 ((fun x => s3nbb cs t2 t3 t7 t8 t9 t15 t16 t17 x.t18 m22_0 m22_1 m22_2 m22_3 x.m26) x) = toR (fun x => s3nbb cs t2 t3 t7 t8 t9 t15 t16 t17 x.t18 m22_0 m22_1 m22_2 m22_3 x.m26) (ou3nbb cs t2 t3 t7 t8 t9 t15 t16 t17 m22_0 m22_1 m22_2 m22_3) (stp3nbb cs t2 t3 t7 t8 t9 t15 t16 t17 m22_0 m22_1 m22_2 m22_3 x.t18 x.m26) := by
  refine (round3nbb _ _ _ _ _ _ _ _ _ _ _ _ _ _ _ ).trans ?_
  unfold stp3nbb
  simp only [toR_cond]
  rfl
theorem lokb3nbb (cs : List (List AV)) (t2 : Bool) (t3 : List (List AV)) (t7 : Nat) (t8 : Int) (t9 : List (List AV)) (t15 : Int) (t16 : List (List AV)) (t17 t18 m22_0 m22_1 m22_2 : Int) (m22_3 m26 : List (List AV)) {e : Ex} {s : St} (hch : Chosen (q3nbb cs t2 t3 t7 t8 t9 t15 t16 t17 t18 m22_0 m22_1 m22_2 m22_3 m26) e s) : LB Try.prog SN9 ro3 L3n lp3nbb [false, true, false, true, true, true, true, true, true, true, false, false, true, false, false, true, false, true, true, true, true, true, true, true, true] [(1, none), (2, none), (3, none), (5, none), (7, none), (8, none), (9, some 3), (15, none), (16, none), (17, none), (18, none)] 27 (s3nbb cs t2 t3 t7 t8 t9 t15 t16 t17 t18 m22_0 m22_1 m22_2 m22_3 m26) e s := by
  unfold q3nbb at hch
  have main := fun y h => LB_run (x := (⟨t18, m26⟩ : S3nbb)) (y := y) (nb := 27) (fun y => by cases y <;> simp [ou3nbb]) (rnd3nbb cs t2 t3 t7 t8 t9 t15 t16 t17 m22_0 m22_1 m22_2 m22_3) h
  obtain ⟨x, hx, hg, rfl, rfl⟩ := chosen_any hch
  simp only [List.mem_cons, List.not_mem_nil, or_false] at hx
  subst hx
  exact main _ (is3nbb_0 cs t2 t3 t7 t8 t9 t15 t16 t17 m22_0 m22_1 m22_2 m22_3 t18 m26 hg)
theorem lok3nbb {st : St} {outs : List (Bool × Ex × St)} {e : Ex} {s : St} (hl : l3nbb st = some outs) (hch : Chosen outs e s) :
    ∃ keep nb, 0 ≤ nb ∧ LB Try.prog SN9 ro3 L3n lp3nbb [false, true, false, true, true, true, true, true, true, true, false, false, true, false, false, true, false, true, true, true, true, true, true, true, true] keep nb st e s := by
  unfold l3nbb at hl
  obtain ⟨ls, hno, rfl⟩ := qget_some hl
  have hno := normW_norm hno
  refine ⟨_, _, ?_, .enterQ hno (s2 := s3nbb (lLL ls 0) (lB ls 1) (lLL ls 2) (lN ls 3) (lI ls 4) (lLL ls 5) (lI ls 6) (lLL ls 7) (lI ls 8) (lI ls 9) (lI ls 10) (lI ls 11) (lI ls 12) (lLL ls 13) (lLL ls 14)) (by kernel_rfl) (lokb3nbb _ _ _ _ _ _ _ _ _ _ _ _ _ _ _ hch)⟩
  decide
theorem is3nb_0 (cs : List (List AV)) (t2 : Bool) (t3 : List (List AV)) (t7 : Nat) (m22_1 m22_2 : Int) (m22_3 : List (List AV)) (t8 m22_0 : Int) (m26 : List (List AV)) (h : i3nb_0 cs t2 t3 t7 m22_1 m22_2 m22_3 t8 m22_0 m26 = true) : r3nb cs t2 t3 t7 m22_1 m22_2 m22_3 t8 m22_0 m26 = some (.x0 (v3nb_0_t2' cs t2 t3 t7 m22_1 m22_2 m22_3 t8 m22_0 m26) (v3nb_0_t8 cs t2 t3 t7 m22_1 m22_2 m22_3 t8 m22_0 m26) (v3nb_0_m22_0 cs t2 t3 t7 m22_1 m22_2 m22_3 t8 m22_0 m26) (v3nb_0_m26 cs t2 t3 t7 m22_1 m22_2 m22_3 t8 m22_0 m26)) := by
  unfold i3nb_0 at h
  unfold v3nb_0_t2' v3nb_0_t8 v3nb_0_m22_0 v3nb_0_m26
  generalize r3nb cs t2 t3 t7 m22_1 m22_2 m22_3 t8 m22_0 m26 = r at h ⊢
  rcases r with _ | y
  · cases h
  · cases y <;> first | rfl | cases h
theorem is3nb_1 (cs : List (List AV)) (t2 : Bool) (t3 : List (List AV)) (t7 : Nat) (m22_1 m22_2 : Int) (m22_3 : List (List AV)) (t8 m22_0 : Int) (m26 : List (List AV)) (h : i3nb_1 cs t2 t3 t7 m22_1 m22_2 m22_3 t8 m22_0 m26 = true) : r3nb cs t2 t3 t7 m22_1 m22_2 m22_3 t8 m22_0 m26 = some (.x1 (v3nb_1_t8 cs t2 t3 t7 m22_1 m22_2 m22_3 t8 m22_0 m26) (v3nb_1_m22_0 cs t2 t3 t7 m22_1 m22_2 m22_3 t8 m22_0 m26) (v3nb_1_m26 cs t2 t3 t7 m22_1 m22_2 m22_3 t8 m22_0 m26)) := by
  unfold i3nb_1 at h
  unfold v3nb_1_t8 v3nb_1_m22_0 v3nb_1_m26
  generalize r3nb cs t2 t3 t7 m22_1 m22_2 m22_3 t8 m22_0 m26 = r at h ⊢
  rcases r with _ | y
  · cases h
  · cases y <;> first | rfl | cases h
theorem round3nb (cs : List (List AV)) (t2 : Bool) (t3 : List (List AV)) (t7 : Nat) (t8 m22_0 m22_1 m22_2 : Int) (m22_3 m26 : List (List AV)) : round Try.prog SN9 ro3 L3n lp3nb [false, true, false, true, true, true, true, true, true, true, true] [(1, none), (2, none), (3, none), (5, none), (7, none), (8, none)] 27 (s3nb cs t2 t3 t7 t8 m22_0 m22_1 m22_2 m22_3 m26) =
    cond (decide (t8 < (↑cs.length : Int))) (cond (i3nba_0 cs t2 t3 t7 t8 m22_1 m22_2 m22_3 m26 [] 0 0) (some (.ret, o3nb_0 cs t2 t3 t7 m22_1 m22_2 m22_3 (v3nba_0_t2' cs t2 t3 t7 t8 m22_1 m22_2 m22_3 m26 [] 0 0) t8 (v3nba_0_m22_0 cs t2 t3 t7 t8 m22_1 m22_2 m22_3 m26 [] 0 0) m26)) (cond (i3nba_1 cs t2 t3 t7 t8 m22_1 m22_2 m22_3 m26 [] 0 0) (cond (decide (v3nba_1_m22_0 cs t2 t3 t7 t8 m22_1 m22_2 m22_3 m26 [] 0 0 > 300)) (some (.ret, o3nb_0 cs t2 t3 t7 m22_1 m22_2 m22_3 true t8 (v3nba_1_m22_0 cs t2 t3 t7 t8 m22_1 m22_2 m22_3 m26 [] 0 0) m26)) (cond (g30 (v3nba_1_m22_0 cs t2 t3 t7 t8 m22_1 m22_2 m22_3 m26 [] 0 0) m22_1 m22_2 m22_3 (v3nba_1_t9 cs t2 t3 t7 t8 m22_1 m22_2 m22_3 m26 [] 0 0)) (cond (g34 (v3nba_1_m22_0 cs t2 t3 t7 t8 m22_1 m22_2 m22_3 m26 [] 0 0) m22_1 m22_2 m22_3 (v3nba_1_t9 cs t2 t3 t7 t8 m22_1 m22_2 m22_3 m26 [] 0 0)) (cond (w30_1 (v3nba_1_m22_0 cs t2 t3 t7 t8 m22_1 m22_2 m22_3 m26 [] 0 0) m22_1 m22_2 m22_3 (v3nba_1_t9 cs t2 t3 t7 t8 m22_1 m22_2 m22_3 m26 [] 0 0) != 0) (some (.ret, o3nb_0 cs t2 t3 t7 m22_1 m22_2 m22_3 false t8 (v3nba_1_m22_0 cs t2 t3 t7 t8 m22_1 m22_2 m22_3 m26 [] 0 0) m26)) (cond (w34_1 (v3nba_1_m22_0 cs t2 t3 t7 t8 m22_1 m22_2 m22_3 m26 [] 0 0) m22_1 m22_2 m22_3 (v3nba_1_t9 cs t2 t3 t7 t8 m22_1 m22_2 m22_3 m26 [] 0 0) != 0) (some (.ret, o3nb_0 cs t2 t3 t7 m22_1 m22_2 m22_3 false t8 (v3nba_1_m22_0 cs t2 t3 t7 t8 m22_1 m22_2 m22_3 m26 [] 0 0) m26)) (cond (!w30_0 (v3nba_1_m22_0 cs t2 t3 t7 t8 m22_1 m22_2 m22_3 m26 [] 0 0) m22_1 m22_2 m22_3 (v3nba_1_t9 cs t2 t3 t7 t8 m22_1 m22_2 m22_3 m26 [] 0 0)) (some (.ret, o3nb_0 cs t2 t3 t7 m22_1 m22_2 m22_3 false t8 (v3nba_1_m22_0 cs t2 t3 t7 t8 m22_1 m22_2 m22_3 m26 [] 0 0) m26)) (cond ((↑(w34_0 (v3nba_1_m22_0 cs t2 t3 t7 t8 m22_1 m22_2 m22_3 m26 [] 0 0) m22_1 m22_2 m22_3 (v3nba_1_t9 cs t2 t3 t7 t8 m22_1 m22_2 m22_3 m26 [] 0 0)).length : Int) != (↑t7 : Int)) (some (.ret, o3nb_0 cs t2 t3 t7 m22_1 m22_2 m22_3 false t8 (v3nba_1_m22_0 cs t2 t3 t7 t8 m22_1 m22_2 m22_3 m26 [] 0 0) m26)) (cond (i3nbb_0 cs t2 t3 t7 t8 (v3nba_1_t9 cs t2 t3 t7 t8 m22_1 m22_2 m22_3 m26 [] 0 0) (w30_1 (v3nba_1_m22_0 cs t2 t3 t7 t8 m22_1 m22_2 m22_3 m26 [] 0 0) m22_1 m22_2 m22_3 (v3nba_1_t9 cs t2 t3 t7 t8 m22_1 m22_2 m22_3 m26 [] 0 0)) (w34_0 (v3nba_1_m22_0 cs t2 t3 t7 t8 m22_1 m22_2 m22_3 m26 [] 0 0) m22_1 m22_2 m22_3 (v3nba_1_t9 cs t2 t3 t7 t8 m22_1 m22_2 m22_3 m26 [] 0 0)) (w34_1 (v3nba_1_m22_0 cs t2 t3 t7 t8 m22_1 m22_2 m22_3 m26 [] 0 0) m22_1 m22_2 m22_3 (v3nba_1_t9 cs t2 t3 t7 t8 m22_1 m22_2 m22_3 m26 [] 0 0)) (v3nba_1_m22_0 cs t2 t3 t7 t8 m22_1 m22_2 m22_3 m26 [] 0 0) m22_1 m22_2 m22_3 0 m26) (cond (g42 (v3nba_1_m22_0 cs t2 t3 t7 t8 m22_1 m22_2 m22_3 m26 [] 0 0) m22_1 m22_2 m22_3 (v3nba_1_t9 cs t2 t3 t7 t8 m22_1 m22_2 m22_3 m26 [] 0 0)) (cond (w42_1 (v3nba_1_m22_0 cs t2 t3 t7 t8 m22_1 m22_2 m22_3 m26 [] 0 0) m22_1 m22_2 m22_3 (v3nba_1_t9 cs t2 t3 t7 t8 m22_1 m22_2 m22_3 m26 [] 0 0) == 3) (some (.nrm, s3nb cs t2 t3 t7 (IntKind.i64.wrap (t8 + 1)) (v3nba_1_m22_0 cs t2 t3 t7 t8 m22_1 m22_2 m22_3 m26 [] 0 0) m22_1 m22_2 m22_3 (v3nbb_0_m26 cs t2 t3 t7 t8 (v3nba_1_t9 cs t2 t3 t7 t8 m22_1 m22_2 m22_3 m26 [] 0 0) (w30_1 (v3nba_1_m22_0 cs t2 t3 t7 t8 m22_1 m22_2 m22_3 m26 [] 0 0) m22_1 m22_2 m22_3 (v3nba_1_t9 cs t2 t3 t7 t8 m22_1 m22_2 m22_3 m26 [] 0 0)) (w34_0 (v3nba_1_m22_0 cs t2 t3 t7 t8 m22_1 m22_2 m22_3 m26 [] 0 0) m22_1 m22_2 m22_3 (v3nba_1_t9 cs t2 t3 t7 t8 m22_1 m22_2 m22_3 m26 [] 0 0)) (w34_1 (v3nba_1_m22_0 cs t2 t3 t7 t8 m22_1 m22_2 m22_3 m26 [] 0 0) m22_1 m22_2 m22_3 (v3nba_1_t9 cs t2 t3 t7 t8 m22_1 m22_2 m22_3 m26 [] 0 0)) (v3nba_1_m22_0 cs t2 t3 t7 t8 m22_1 m22_2 m22_3 m26 [] 0 0) m22_1 m22_2 m22_3 0 m26))) (cond (g40 (v3nba_1_m22_0 cs t2 t3 t7 t8 m22_1 m22_2 m22_3 m26 [] 0 0) m22_1 m22_2 m22_3 (w42_0 (v3nba_1_m22_0 cs t2 t3 t7 t8 m22_1 m22_2 m22_3 m26 [] 0 0) m22_1 m22_2 m22_3 (v3nba_1_t9 cs t2 t3 t7 t8 m22_1 m22_2 m22_3 m26 [] 0 0))) (cond (w42_1 (v3nba_1_m22_0 cs t2 t3 t7 t8 m22_1 m22_2 m22_3 m26 [] 0 0) m22_1 m22_2 m22_3 (v3nba_1_t9 cs t2 t3 t7 t8 m22_1 m22_2 m22_3 m26 [] 0 0) != 0) (some (.ret, o3nb_0 cs t2 t3 t7 m22_1 m22_2 m22_3 false t8 (v3nba_1_m22_0 cs t2 t3 t7 t8 m22_1 m22_2 m22_3 m26 [] 0 0) (v3nbb_0_m26 cs t2 t3 t7 t8 (v3nba_1_t9 cs t2 t3 t7 t8 m22_1 m22_2 m22_3 m26 [] 0 0) (w30_1 (v3nba_1_m22_0 cs t2 t3 t7 t8 m22_1 m22_2 m22_3 m26 [] 0 0) m22_1 m22_2 m22_3 (v3nba_1_t9 cs t2 t3 t7 t8 m22_1 m22_2 m22_3 m26 [] 0 0)) (w34_0 (v3nba_1_m22_0 cs t2 t3 t7 t8 m22_1 m22_2 m22_3 m26 [] 0 0) m22_1 m22_2 m22_3 (v3nba_1_t9 cs t2 t3 t7 t8 m22_1 m22_2 m22_3 m26 [] 0 0)) (w34_1 (v3nba_1_m22_0 cs t2 t3 t7 t8 m22_1 m22_2 m22_3 m26 [] 0 0) m22_1 m22_2 m22_3 (v3nba_1_t9 cs t2 t3 t7 t8 m22_1 m22_2 m22_3 m26 [] 0 0)) (v3nba_1_m22_0 cs t2 t3 t7 t8 m22_1 m22_2 m22_3 m26 [] 0 0) m22_1 m22_2 m22_3 0 m26))) (cond (w40_1 (v3nba_1_m22_0 cs t2 t3 t7 t8 m22_1 m22_2 m22_3 m26 [] 0 0) m22_1 m22_2 m22_3 (w42_0 (v3nba_1_m22_0 cs t2 t3 t7 t8 m22_1 m22_2 m22_3 m26 [] 0 0) m22_1 m22_2 m22_3 (v3nba_1_t9 cs t2 t3 t7 t8 m22_1 m22_2 m22_3 m26 [] 0 0)) != 0) (some (.ret, o3nb_0 cs t2 t3 t7 m22_1 m22_2 m22_3 false t8 (v3nba_1_m22_0 cs t2 t3 t7 t8 m22_1 m22_2 m22_3 m26 [] 0 0) (v3nbb_0_m26 cs t2 t3 t7 t8 (v3nba_1_t9 cs t2 t3 t7 t8 m22_1 m22_2 m22_3 m26 [] 0 0) (w30_1 (v3nba_1_m22_0 cs t2 t3 t7 t8 m22_1 m22_2 m22_3 m26 [] 0 0) m22_1 m22_2 m22_3 (v3nba_1_t9 cs t2 t3 t7 t8 m22_1 m22_2 m22_3 m26 [] 0 0)) (w34_0 (v3nba_1_m22_0 cs t2 t3 t7 t8 m22_1 m22_2 m22_3 m26 [] 0 0) m22_1 m22_2 m22_3 (v3nba_1_t9 cs t2 t3 t7 t8 m22_1 m22_2 m22_3 m26 [] 0 0)) (w34_1 (v3nba_1_m22_0 cs t2 t3 t7 t8 m22_1 m22_2 m22_3 m26 [] 0 0) m22_1 m22_2 m22_3 (v3nba_1_t9 cs t2 t3 t7 t8 m22_1 m22_2 m22_3 m26 [] 0 0)) (v3nba_1_m22_0 cs t2 t3 t7 t8 m22_1 m22_2 m22_3 m26 [] 0 0) m22_1 m22_2 m22_3 0 m26))) (cond (g28 (v3nba_1_t9 cs t2 t3 t7 t8 m22_1 m22_2 m22_3 m26 [] 0 0) (w40_0 (v3nba_1_m22_0 cs t2 t3 t7 t8 m22_1 m22_2 m22_3 m26 [] 0 0) m22_1 m22_2 m22_3 (w42_0 (v3nba_1_m22_0 cs t2 t3 t7 t8 m22_1 m22_2 m22_3 m26 [] 0 0) m22_1 m22_2 m22_3 (v3nba_1_t9 cs t2 t3 t7 t8 m22_1 m22_2 m22_3 m26 [] 0 0)))) (cond (!w28_0 (v3nba_1_t9 cs t2 t3 t7 t8 m22_1 m22_2 m22_3 m26 [] 0 0) (w40_0 (v3nba_1_m22_0 cs t2 t3 t7 t8 m22_1 m22_2 m22_3 m26 [] 0 0) m22_1 m22_2 m22_3 (w42_0 (v3nba_1_m22_0 cs t2 t3 t7 t8 m22_1 m22_2 m22_3 m26 [] 0 0) m22_1 m22_2 m22_3 (v3nba_1_t9 cs t2 t3 t7 t8 m22_1 m22_2 m22_3 m26 [] 0 0)))) (some (.ret, o3nb_0 cs t2 t3 t7 m22_1 m22_2 m22_3 false t8 (v3nba_1_m22_0 cs t2 t3 t7 t8 m22_1 m22_2 m22_3 m26 [] 0 0) (v3nbb_0_m26 cs t2 t3 t7 t8 (v3nba_1_t9 cs t2 t3 t7 t8 m22_1 m22_2 m22_3 m26 [] 0 0) (w30_1 (v3nba_1_m22_0 cs t2 t3 t7 t8 m22_1 m22_2 m22_3 m26 [] 0 0) m22_1 m22_2 m22_3 (v3nba_1_t9 cs t2 t3 t7 t8 m22_1 m22_2 m22_3 m26 [] 0 0)) (w34_0 (v3nba_1_m22_0 cs t2 t3 t7 t8 m22_1 m22_2 m22_3 m26 [] 0 0) m22_1 m22_2 m22_3 (v3nba_1_t9 cs t2 t3 t7 t8 m22_1 m22_2 m22_3 m26 [] 0 0)) (w34_1 (v3nba_1_m22_0 cs t2 t3 t7 t8 m22_1 m22_2 m22_3 m26 [] 0 0) m22_1 m22_2 m22_3 (v3nba_1_t9 cs t2 t3 t7 t8 m22_1 m22_2 m22_3 m26 [] 0 0)) (v3nba_1_m22_0 cs t2 t3 t7 t8 m22_1 m22_2 m22_3 m26 [] 0 0) m22_1 m22_2 m22_3 0 m26))) (some (.nrm, s3nb cs t2 t3 t7 (IntKind.i64.wrap (t8 + 1)) (v3nba_1_m22_0 cs t2 t3 t7 t8 m22_1 m22_2 m22_3 m26 [] 0 0) m22_1 m22_2 m22_3 (v3nbb_0_m26 cs t2 t3 t7 t8 (v3nba_1_t9 cs t2 t3 t7 t8 m22_1 m22_2 m22_3 m26 [] 0 0) (w30_1 (v3nba_1_m22_0 cs t2 t3 t7 t8 m22_1 m22_2 m22_3 m26 [] 0 0) m22_1 m22_2 m22_3 (v3nba_1_t9 cs t2 t3 t7 t8 m22_1 m22_2 m22_3 m26 [] 0 0)) (w34_0 (v3nba_1_m22_0 cs t2 t3 t7 t8 m22_1 m22_2 m22_3 m26 [] 0 0) m22_1 m22_2 m22_3 (v3nba_1_t9 cs t2 t3 t7 t8 m22_1 m22_2 m22_3 m26 [] 0 0)) (w34_1 (v3nba_1_m22_0 cs t2 t3 t7 t8 m22_1 m22_2 m22_3 m26 [] 0 0) m22_1 m22_2 m22_3 (v3nba_1_t9 cs t2 t3 t7 t8 m22_1 m22_2 m22_3 m26 [] 0 0)) (v3nba_1_m22_0 cs t2 t3 t7 t8 m22_1 m22_2 m22_3 m26 [] 0 0) m22_1 m22_2 m22_3 0 m26)))) (none)))) (none))) (none)) (none)))))) (none)) (none))) (none))) (some (.ext 2, o3nb_1 cs t2 t3 t7 m22_1 m22_2 m22_3 t8 m22_0 m26)) := by kernel_rfl
theorem rnd3nb (cs : List (List AV)) (t2 : Bool) (t3 : List (List AV)) (t7 : Nat) (m22_1 m22_2 : Int) (m22_3 : List (List AV)) (x : S3nb) : round Try.prog SN9 ro3 L3n lp3nb [false, true, false, true, true, true, true, true, true, true, true] [(1, none), (2, none), (3, none), (5, none), (7, none), (8, none)] 27 ((fun x => s3nb cs t2 t3 t7 x.t8 x.m22_0 m22_1 m22_2 m22_3 x.m26) x) = toR (fun x => s3nb cs t2 t3 t7 x.t8 x.m22_0 m22_1 m22_2 m22_3 x.m26) (ou3nb cs t2 t3 t7 m22_1 m22_2 m22_3) (stp3nb cs t2 t3 t7 m22_1 m22_2 m22_3 x.t8 x.m22_0 x.m26) := by
  refine (round3nb _ _ _ _ _ _ _ _ _ _ ).trans ?_
  unfold stp3nb
  simp only [toR_cond]
  rfl
theorem lokb3nb (cs : List (List AV)) (t2 : Bool) (t3 : List (List AV)) (t7 : Nat) (t8 m22_0 m22_1 m22_2 : Int) (m22_3 m26 : List (List AV)) {e : Ex} {s : St} (hch : Chosen (q3nb cs t2 t3 t7 t8 m22_0 m22_1 m22_2 m22_3 m26) e s) : LB Try.prog SN9 ro3 L3n lp3nb [false, true, false, true, true, true, true, true, true, true, true] [(1, none), (2, none), (3, none), (5, none), (7, none), (8, none)] 27 (s3nb cs t2 t3 t7 t8 m22_0 m22_1 m22_2 m22_3 m26) e s := by
  unfold q3nb at hch
  have main := fun y h => LB_run (x := (⟨t8, m22_0, m26⟩ : S3nb)) (y := y) (nb := 27) (fun y => by cases y <;> simp [ou3nb]) (rnd3nb cs t2 t3 t7 m22_1 m22_2 m22_3) h
  obtain ⟨x, hx, hg, rfl, rfl⟩ := chosen_any hch
  simp only [List.mem_cons, List.not_mem_nil, or_false] at hx
  rcases hx with rfl | rfl
  · exact main _ (is3nb_0 cs t2 t3 t7 m22_1 m22_2 m22_3 t8 m22_0 m26 hg)
  · exact main _ (is3nb_1 cs t2 t3 t7 m22_1 m22_2 m22_3 t8 m22_0 m26 hg)
theorem lok3nb {st : St} {outs : List (Bool × Ex × St)} {e : Ex} {s : St} (hl : l3nb st = some outs) (hch : Chosen outs e s) :
    ∃ keep nb, 0 ≤ nb ∧ LB Try.prog SN9 ro3 L3n lp3nb [false, true, false, true, true, true, true, true, true, true, true] keep nb st e s := by
  unfold l3nb at hl
  obtain ⟨ls, hno, rfl⟩ := qget_some hl
  have hno := normW_norm hno
  refine ⟨_, _, ?_, .enterQ hno (s2 := s3nb (lLL ls 0) (lB ls 1) (lLL ls 2) (lN ls 3) (lI ls 4) (lI ls 5) (lI ls 6) (lI ls 7) (lLL ls 8) (lLL ls 9)) (by kernel_rfl) (lokb3nb _ _ _ _ _ _ _ _ _ _ hch)⟩
  decide
theorem is3nc_0 (t2 : Bool) (t3 : List (List AV)) (t7 : Nat) (m22_0 m22_1 m22_2 : Int) (m22_3 m26 : List (List AV)) (t21 : Int) (h : i3nc_0 t2 t3 t7 m22_0 m22_1 m22_2 m22_3 m26 t21 = true) : r3nc t2 t3 t7 m22_0 m22_1 m22_2 m22_3 m26 t21 = some (.x0 (v3nc_0_t2' t2 t3 t7 m22_0 m22_1 m22_2 m22_3 m26 t21) (v3nc_0_t21 t2 t3 t7 m22_0 m22_1 m22_2 m22_3 m26 t21)) := by
  unfold i3nc_0 at h
  unfold v3nc_0_t2' v3nc_0_t21
  generalize r3nc t2 t3 t7 m22_0 m22_1 m22_2 m22_3 m26 t21 = r at h ⊢
  rcases r with _ | y
  · cases h
  · cases y <;> first | rfl | cases h
theorem is3nc_1 (t2 : Bool) (t3 : List (List AV)) (t7 : Nat) (m22_0 m22_1 m22_2 : Int) (m22_3 m26 : List (List AV)) (t21 : Int) (h : i3nc_1 t2 t3 t7 m22_0 m22_1 m22_2 m22_3 m26 t21 = true) : r3nc t2 t3 t7 m22_0 m22_1 m22_2 m22_3 m26 t21 = some (.x1 (v3nc_1_t21 t2 t3 t7 m22_0 m22_1 m22_2 m22_3 m26 t21)) := by
  unfold i3nc_1 at h
  unfold v3nc_1_t21
  generalize r3nc t2 t3 t7 m22_0 m22_1 m22_2 m22_3 m26 t21 = r at h ⊢
  rcases r with _ | y
  · cases h
  · cases y <;> first | rfl | cases h
theorem round3nc (t2 : Bool) (t3 : List (List AV)) (t7 : Nat) (t21 m22_0 m22_1 m22_2 : Int) (m22_3 m26 : List (List AV)) : round Try.prog SN9 ro3 L3n lp3nc [false, true, false, true, true, true, true, true, true, true, true, true] [(2, none), (3, none), (7, none), (21, none)] 27 (s3nc t2 t3 t7 t21 m22_0 m22_1 m22_2 m22_3 m26) =
    cond (decide (t21 < (↑t3.length : Int))) (cond (inb t21 t3.length) (cond (inb t21 t7 && (0 + t21.toNat).blt m26.length) (cond ((0 + t21.toNat).blt m26.length) (cond (fI (t3.getD t21.toNat []) 4 != fI (m26.getD (0 + t21.toNat) []) 0) (some (.ret, o3nc_0 t2 t3 t7 m22_0 m22_1 m22_2 m22_3 m26 false t21)) (some (.nrm, s3nc t2 t3 t7 (IntKind.i64.wrap (t21 + 1)) m22_0 m22_1 m22_2 m22_3 m26))) (none)) (none)) (none)) (some (.ext 10, o3nc_1 t2 t3 t7 m22_0 m22_1 m22_2 m22_3 m26 t21)) := by kernel_rfl
theorem rnd3nc (t2 : Bool) (t3 : List (List AV)) (t7 : Nat) (m22_0 m22_1 m22_2 : Int) (m22_3 m26 : List (List AV)) (x : S3nc) : round Try.prog SN9 ro3 L3n lp3nc [false, true, false, true, true, true, true, true, true, true, true, true] [(2, none), (3, none), (7, none), (21, none)] 27 ((fun x => s3nc t2 t3 t7 x.t21 m22_0 m22_1 m22_2 m22_3 m26) x) = toR (fun x => s3nc t2 t3 t7 x.t21 m22_0 m22_1 m22_2 m22_3 m26) (ou3nc t2 t3 t7 m22_0 m22_1 m22_2 m22_3 m26) (stp3nc t2 t3 t7 m22_0 m22_1 m22_2 m22_3 m26 x.t21) := by
  refine (round3nc _ _ _ _ _ _ _ _ _ ).trans ?_
  unfold stp3nc
  simp only [toR_cond]
  rfl
theorem lokb3nc (t2 : Bool) (t3 : List (List AV)) (t7 : Nat) (t21 m22_0 m22_1 m22_2 : Int) (m22_3 m26 : List (List AV)) {e : Ex} {s : St} (hch : Chosen (q3nc t2 t3 t7 t21 m22_0 m22_1 m22_2 m22_3 m26) e s) : LB Try.prog SN9 ro3 L3n lp3nc [false, true, false, true, true, true, true, true, true, true, true, true] [(2, none), (3, none), (7, none), (21, none)] 27 (s3nc t2 t3 t7 t21 m22_0 m22_1 m22_2 m22_3 m26) e s := by
  unfold q3nc at hch
  have main := fun y h => LB_run (x := (⟨t21⟩ : S3nc)) (y := y) (nb := 27) (fun y => by cases y <;> simp [ou3nc]) (rnd3nc t2 t3 t7 m22_0 m22_1 m22_2 m22_3 m26) h
  obtain ⟨x, hx, hg, rfl, rfl⟩ := chosen_any hch
  simp only [List.mem_cons, List.not_mem_nil, or_false] at hx
  rcases hx with rfl | rfl
  · exact main _ (is3nc_0 t2 t3 t7 m22_0 m22_1 m22_2 m22_3 m26 t21 hg)
  · exact main _ (is3nc_1 t2 t3 t7 m22_0 m22_1 m22_2 m22_3 m26 t21 hg)
theorem lok3nc {st : St} {outs : List (Bool × Ex × St)} {e : Ex} {s : St} (hl : l3nc st = some outs) (hch : Chosen outs e s) :
    ∃ keep nb, 0 ≤ nb ∧ LB Try.prog SN9 ro3 L3n lp3nc [false, true, false, true, true, true, true, true, true, true, true, true] keep nb st e s := by
  unfold l3nc at hl
  obtain ⟨ls, hno, rfl⟩ := qget_some hl
  have hno := normW_norm hno
  refine ⟨_, _, ?_, .enterQ hno (s2 := s3nc (lB ls 0) (lLL ls 1) (lN ls 2) (lI ls 3) (lI ls 4) (lI ls 5) (lI ls 6) (lLL ls 7) (lLL ls 8)) (by kernel_rfl) (lokb3nc _ _ _ _ _ _ _ _ _ hch)⟩
  decide
theorem L3n_ok (q : Pl) (c : Code) (hq : locate c3n q.reverse = some (.loop c)) (st : St) (outs : List (Bool × Ex × St)) (e : Ex) (s : St) (hl : L3n q st = some outs) (hch : Chosen outs e s) :
    ∃ keep nb, 0 ≤ nb ∧ LB Try.prog SN9 ro3 L3n c q keep nb st e s := by
  unfold L3n at hl
  split at hl
  · have : locate c3n ([false, true, false, true, true, true, true, true, true] : Pl).reverse = some (.loop lp3na) := by kernel_rfl
    rw [this] at hq
    cases hq
    exact lok3na hl hch
  · have : locate c3n ([false, true, false, true, true, false, false, true, false, false, true, false, true, true, false, false, true, false, false, true, false, true, true, true, true, true, true, true, true] : Pl).reverse = some (.loop lp3nbaa) := by kernel_rfl
    rw [this] at hq
    cases hq
    exact lok3nbaa hl hch
  · have : locate c3n ([false, true, false, true, true, false, false, true, false, false, true, false, true, true, true, true, true, true, true, true] : Pl).reverse = some (.loop lp3nba) := by kernel_rfl
    rw [this] at hq
    cases hq
    exact lok3nba hl hch
  · have : locate c3n ([false, true, false, true, true, true, true, true, true, true, false, false, true, false, false, true, false, true, true, true, true, true, true, true, true] : Pl).reverse = some (.loop lp3nbb) := by kernel_rfl
    rw [this] at hq
    cases hq
    exact lok3nbb hl hch
  · have : locate c3n ([false, true, false, true, true, true, true, true, true, true, true] : Pl).reverse = some (.loop lp3nb) := by kernel_rfl
    rw [this] at hq
    cases hq
    exact lok3nb hl hch
  · have : locate c3n ([false, true, false, true, true, true, true, true, true, true, true, true] : Pl).reverse = some (.loop lp3nc) := by kernel_rfl
    rw [this] at hq
    cases hq
    exact lok3nc hl hch
  · cases hl
theorem lok3n : LOK Try.prog SN9 ro3 L3n 0 false c3n [] :=
  lok_lo L3n_ok c3n [] false (locate_nil _) (by kernel_rfl)
noncomputable def t3n (cs : List (List AV)) : Tr ((Bool)) :=
  .cn (decide ((↑cs.length : Int) > 24)) (.lf (true)) (.cn (g4n cs) (.cn (w4n_0 cs) (.lf (true)) (.cn (g6q cs) (.cn (w6q_1 cs != 0) (.cn ((↑(w6q_0 cs).length : Int) == 0) (.lf (true)) (.lf (false))) (.cn (decide ((↑(w6q_0 cs).length : Int) > 10)) (.lf (true)) (.cn (i3na_0 cs false (w6q_0 cs) 0 0 0 0 []) (.cn (decide ((↑(w6q_0 cs).length : Int) = (↑(w6q_0 cs).length : Int)) && (decide (0 ≤ (↑(w6q_0 cs).length : Int)) && decide ((↑(w6q_0 cs).length : Int) * (↑8 : Int) ≤ 140737488355328) && decide ((↑(w6q_0 cs).length : Int) ≤ 9223372036854775807))) (.cn (i3nb_0 cs false (w6q_0 cs) (↑(w6q_0 cs).length : Int).toNat 0 0 (v3na_0_m22_3 cs false (w6q_0 cs) 0 0 0 0 []) 0 0 (List.replicate (↑(w6q_0 cs).length : Int).toNat [AV.i IntKind.i64 0])) (.lf (v3nb_0_t2' cs false (w6q_0 cs) (↑(w6q_0 cs).length : Int).toNat 0 0 (v3na_0_m22_3 cs false (w6q_0 cs) 0 0 0 0 []) 0 0 (List.replicate (↑(w6q_0 cs).length : Int).toNat [AV.i IntKind.i64 0]))) (.cn (i3nb_1 cs false (w6q_0 cs) (↑(w6q_0 cs).length : Int).toNat 0 0 (v3na_0_m22_3 cs false (w6q_0 cs) 0 0 0 0 []) 0 0 (List.replicate (↑(w6q_0 cs).length : Int).toNat [AV.i IntKind.i64 0])) (.cn (i3nc_0 false (w6q_0 cs) (↑(w6q_0 cs).length : Int).toNat (v3nb_1_m22_0 cs false (w6q_0 cs) (↑(w6q_0 cs).length : Int).toNat 0 0 (v3na_0_m22_3 cs false (w6q_0 cs) 0 0 0 0 []) 0 0 (List.replicate (↑(w6q_0 cs).length : Int).toNat [AV.i IntKind.i64 0])) 0 0 (v3na_0_m22_3 cs false (w6q_0 cs) 0 0 0 0 []) (v3nb_1_m26 cs false (w6q_0 cs) (↑(w6q_0 cs).length : Int).toNat 0 0 (v3na_0_m22_3 cs false (w6q_0 cs) 0 0 0 0 []) 0 0 (List.replicate (↑(w6q_0 cs).length : Int).toNat [AV.i IntKind.i64 0])) 0) (.lf (v3nc_0_t2' false (w6q_0 cs) (↑(w6q_0 cs).length : Int).toNat (v3nb_1_m22_0 cs false (w6q_0 cs) (↑(w6q_0 cs).length : Int).toNat 0 0 (v3na_0_m22_3 cs false (w6q_0 cs) 0 0 0 0 []) 0 0 (List.replicate (↑(w6q_0 cs).length : Int).toNat [AV.i IntKind.i64 0])) 0 0 (v3na_0_m22_3 cs false (w6q_0 cs) 0 0 0 0 []) (v3nb_1_m26 cs false (w6q_0 cs) (↑(w6q_0 cs).length : Int).toNat 0 0 (v3na_0_m22_3 cs false (w6q_0 cs) 0 0 0 0 []) 0 0 (List.replicate (↑(w6q_0 cs).length : Int).toNat [AV.i IntKind.i64 0])) 0)) (.cn (i3nc_1 false (w6q_0 cs) (↑(w6q_0 cs).length : Int).toNat (v3nb_1_m22_0 cs false (w6q_0 cs) (↑(w6q_0 cs).length : Int).toNat 0 0 (v3na_0_m22_3 cs false (w6q_0 cs) 0 0 0 0 []) 0 0 (List.replicate (↑(w6q_0 cs).length : Int).toNat [AV.i IntKind.i64 0])) 0 0 (v3na_0_m22_3 cs false (w6q_0 cs) 0 0 0 0 []) (v3nb_1_m26 cs false (w6q_0 cs) (↑(w6q_0 cs).length : Int).toNat 0 0 (v3na_0_m22_3 cs false (w6q_0 cs) 0 0 0 0 []) 0 0 (List.replicate (↑(w6q_0 cs).length : Int).toNat [AV.i IntKind.i64 0])) 0) (.lf (true)) (.nn))) (.nn))) (.nn)) (.nn)))) (.nn))) (.nn))
noncomputable def g3n (cs : List (List AV)) : Bool := (t3n cs).g
noncomputable def w3n_0 (cs : List (List AV)) : Bool := (t3n cs).val
theorem eq3n (cs : List (List AV)) : evF Try.prog SN9 ro3 L3n Try.f3 [.agg [.rs 43 cs]] = (t3n cs).opt (fun (x : (Bool)) => (.b x : AV)) := by kernel_rfl
theorem con3n (cs : List (List AV)) (h : g3n cs = true) : Con Try.prog 3 [.agg [.rs 43 cs]] [] (.b (w3n_0 cs)) [] :=
  con_of SN9_ok mixed Try.func3 (c := c3n) rfl (names 3 _ Try.func3) lok3n ((eq3n cs).trans (Tr.sound _ _ h))
-- SPEC 3
end Go.Proofs.Ytfbfohkgajeopac

set_option maxRecDepth 100000
set_option linter.unusedVariables false
namespace Go.Proofs.Ytfbfohkgajeopac
open Go Go.Ev

def nmA (i : Nat) : ByteArray := (⟨#[112]⟩ : ByteArray) ++ Utf8.encode (IntKind.i32.wrap (IntKind.i64.wrap (97 + (i : Int))))
def nbA (i : Nat) : ByteArray := ⟨#[112, UInt8.ofNat (97 + i)]⟩
theorem nmA_eq {i : Nat} (h : i < 10) : nmA i = nbA i := by
  match i, h with
  | 0, _ => exact (by kernel_rfl : nmA 0 = nbA 0)
  | 1, _ => exact (by kernel_rfl : nmA 1 = nbA 1)
  | 2, _ => exact (by kernel_rfl : nmA 2 = nbA 2)
  | 3, _ => exact (by kernel_rfl : nmA 3 = nbA 3)
  | 4, _ => exact (by kernel_rfl : nmA 4 = nbA 4)
  | 5, _ => exact (by kernel_rfl : nmA 5 = nbA 5)
  | 6, _ => exact (by kernel_rfl : nmA 6 = nbA 6)
  | 7, _ => exact (by kernel_rfl : nmA 7 = nbA 7)
  | 8, _ => exact (by kernel_rfl : nmA 8 = nbA 8)
  | 9, _ => exact (by kernel_rfl : nmA 9 = nbA 9)
theorem nbA_run {i : Nat} (h : i < 10) : stp94a true 0 (nbA i) 0 = .go ⟨1⟩ ∧ stp94a true 0 (nbA i) 1 = .go ⟨2⟩ ∧ stp94a true 0 (nbA i) 2 = .out (.x1 2) := by
  match i, h with
  | 0, _ => exact ⟨by kernel_rfl, by kernel_rfl, by kernel_rfl⟩
  | 1, _ => exact ⟨by kernel_rfl, by kernel_rfl, by kernel_rfl⟩
  | 2, _ => exact ⟨by kernel_rfl, by kernel_rfl, by kernel_rfl⟩
  | 3, _ => exact ⟨by kernel_rfl, by kernel_rfl, by kernel_rfl⟩
  | 4, _ => exact ⟨by kernel_rfl, by kernel_rfl, by kernel_rfl⟩
  | 5, _ => exact ⟨by kernel_rfl, by kernel_rfl, by kernel_rfl⟩
  | 6, _ => exact ⟨by kernel_rfl, by kernel_rfl, by kernel_rfl⟩
  | 7, _ => exact ⟨by kernel_rfl, by kernel_rfl, by kernel_rfl⟩
  | 8, _ => exact ⟨by kernel_rfl, by kernel_rfl, by kernel_rfl⟩
  | 9, _ => exact ⟨by kernel_rfl, by kernel_rfl, by kernel_rfl⟩
theorem nbA_head {i : Nat} (h : i < 10) : ((nbA i).toList == (⟨#[]⟩ : ByteArray).toList) = false ∧ decide (((nbA i).size : Int) > 16) = false ∧ inb 0 (nbA i).size = true ∧ decide ((((nbA i).data.toList.getD 0 0).toNat : Int) < 97) = false ∧ decide ((((nbA i).data.toList.getD 0 0).toNat : Int) > 122) = false := by
  match i, h with
  | 0, _ => exact ⟨by kernel_rfl, by kernel_rfl, by kernel_rfl, by kernel_rfl, by kernel_rfl⟩
  | 1, _ => exact ⟨by kernel_rfl, by kernel_rfl, by kernel_rfl, by kernel_rfl, by kernel_rfl⟩
  | 2, _ => exact ⟨by kernel_rfl, by kernel_rfl, by kernel_rfl, by kernel_rfl, by kernel_rfl⟩
  | 3, _ => exact ⟨by kernel_rfl, by kernel_rfl, by kernel_rfl, by kernel_rfl, by kernel_rfl⟩
  | 4, _ => exact ⟨by kernel_rfl, by kernel_rfl, by kernel_rfl, by kernel_rfl, by kernel_rfl⟩
  | 5, _ => exact ⟨by kernel_rfl, by kernel_rfl, by kernel_rfl, by kernel_rfl, by kernel_rfl⟩
  | 6, _ => exact ⟨by kernel_rfl, by kernel_rfl, by kernel_rfl, by kernel_rfl, by kernel_rfl⟩
  | 7, _ => exact ⟨by kernel_rfl, by kernel_rfl, by kernel_rfl, by kernel_rfl, by kernel_rfl⟩
  | 8, _ => exact ⟨by kernel_rfl, by kernel_rfl, by kernel_rfl, by kernel_rfl, by kernel_rfl⟩
  | 9, _ => exact ⟨by kernel_rfl, by kernel_rfl, by kernel_rfl, by kernel_rfl, by kernel_rfl⟩
theorem name61 {i : Nat} (h : i < 10) : w61_0 (nmA i) = true := by
  rw [nmA_eq h]
  obtain ⟨h1, h2, h3⟩ := nbA_run h
  have hr : r94a true 0 (nbA i) 0 = some (.x1 2) := by
    unfold r94a
    exact (run_go (step := fun x : S94a => stp94a true 0 (nbA i) x.m2_1) (x := ⟨0⟩) (y := ⟨1⟩) h1).trans ((run_go (step := fun x : S94a => stp94a true 0 (nbA i) x.m2_1) (x := ⟨1⟩) (y := ⟨2⟩) h2).trans (run_out h3))
  have e94 : w94_0 (nbA i) true = -1 := by
    unfold w94_0 t94 i94a_0 i94a_1
    rw [hr]; rfl
  have e91 : w91_0 (nbA i) = -1 := by
    unfold w91_0 t91
    rw [g94_true]; exact e94
  have g91 : g91 (nbA i) = true := by
    unfold g91 t91
    rw [g94_true]; rfl
  have e84 : w84_0 (nbA i) = false := by
    unfold w84_0 t84
    rw [g91, e91]; rfl
  obtain ⟨k1, k2, k3, k4, k5⟩ := nbA_head h
  unfold w61_0 t61
  rw [k1, k2, k3, k4, k5, g84_true, e84]
  rfl
theorem nb1_0 : (nbA 0).toList.getD 1 0 = UInt8.ofNat (97 + 0) := by kernel_rfl
theorem nb1_1 : (nbA 1).toList.getD 1 0 = UInt8.ofNat (97 + 1) := by kernel_rfl
theorem nb1_2 : (nbA 2).toList.getD 1 0 = UInt8.ofNat (97 + 2) := by kernel_rfl
theorem nb1_3 : (nbA 3).toList.getD 1 0 = UInt8.ofNat (97 + 3) := by kernel_rfl
theorem nb1_4 : (nbA 4).toList.getD 1 0 = UInt8.ofNat (97 + 4) := by kernel_rfl
theorem nb1_5 : (nbA 5).toList.getD 1 0 = UInt8.ofNat (97 + 5) := by kernel_rfl
theorem nb1_6 : (nbA 6).toList.getD 1 0 = UInt8.ofNat (97 + 6) := by kernel_rfl
theorem nb1_7 : (nbA 7).toList.getD 1 0 = UInt8.ofNat (97 + 7) := by kernel_rfl
theorem nb1_8 : (nbA 8).toList.getD 1 0 = UInt8.ofNat (97 + 8) := by kernel_rfl
theorem nb1_9 : (nbA 9).toList.getD 1 0 = UInt8.ofNat (97 + 9) := by kernel_rfl
theorem nmA_ne {i j : Nat} (hi : i < 10) (hj : j < 10) (e : i ≠ j) : (nmA i).toList ≠ (nmA j).toList := by
  rw [nmA_eq hi, nmA_eq hj]
  intro h
  have h1 : ∀ k, k < 10 → (nbA k).toList.getD 1 0 = UInt8.ofNat (97 + k) := fun k hk => by
    match k, hk with
    | 0, _ => exact nb1_0
    | 1, _ => exact nb1_1
    | 2, _ => exact nb1_2
    | 3, _ => exact nb1_3
    | 4, _ => exact nb1_4
    | 5, _ => exact nb1_5
    | 6, _ => exact nb1_6
    | 7, _ => exact nb1_7
    | 8, _ => exact nb1_8
    | 9, _ => exact nb1_9
  have h2 := h1 i hi
  rw [h, h1 j hj] at h2
  have h3 := congrArg UInt8.toNat h2
  simp at h3
  omega

def pcA (l : PL) (i : Nat) : List AV := [.s (nmA i), .i .i64 (gP l i).1.w, .i .i64 0, .i .i64 0, .i .i64 i]
def psA (l : PL) (k : Nat) : List (List AV) := (List.range k).map (pcA l)
theorem psA_len (l : PL) (k : Nat) : (psA l k).length = k := by simp [psA]
theorem psA_at {l : PL} {k i : Nat} (h : i < k) : (psA l k).getD i [] = pcA l i := by simp [psA, List.getD_eq_getElem?_getD, h]
theorem psA_succ (l : PL) (k : Nat) : psA l (k + 1) = psA l k ++ [pcA l k] := by simp [psA, List.range_succ]
theorem encode_le (n : Int) : (Utf8.encode n).size ≤ 4 := by
  unfold Utf8.encode
  simp only
  repeat' split
  all_goals first
    | (show 1 ≤ 4; omega)
    | (show 2 ≤ 4; omega)
    | (show 3 ≤ 4; omega)
    | (show 4 ≤ 4; omega)
theorem pieces3 {cs : List (List AV)} {l : PL} (hl : l.length ≤ 10) : i3na_0 cs false (l.map rowP) 0 0 0 0 [] = true ∧ v3na_0_m22_3 cs false (l.map rowP) 0 0 0 0 [] = psA l l.length := by
  have hr : ∃ y, r3na cs false (l.map rowP) 0 0 0 0 [] = some y ∧ (match y with | .x0 _ m => m = psA l l.length) := by
    unfold r3na
    refine run_cnt l.length (fun k x => x = (⟨(k : Int), psA l k⟩ : S3na)) _ (fun k x hk hx => ?_) (fun x hx => ?_) _ rfl
    · subst hx
      show LpOK _ _ (stp3na cs false (l.map rowP) 0 0 0 (k : Int) (psA l k))
      unfold stp3na
      have h1 : decide ((k : Int) < ((l.map rowP).length : Int)) = true := by rw [List.length_map]; exact lt_true hk
      have h2 : inb (k : Int) (l.map rowP).length = true := by rw [List.length_map]; exact inb_true hk
      have h3 : decide ((1 : Nat) + (Utf8.encode (IntKind.i32.wrap (IntKind.i64.wrap (97 + (k : Int))))).size ≤ 140737488355328) = true := decide_eq_true (by have := encode_le (IntKind.i32.wrap (IntKind.i64.wrap (97 + (k : Int)))); omega)
      have h4 : ∀ x : List AV, (Nat.ble ((psA l k).length + [x].length) 9223372036854775807 && true) = true := fun x => by
        rw [Bool.and_true]; exact Nat.ble_eq_true_of_le (by rw [psA_len]; show k + 1 ≤ _; omega)
      have h5 : ∀ x : List AV, Nat.ble (((psA l k).length + [x].length) * 48) 140737488355328 = true := fun x => Nat.ble_eq_true_of_le (by rw [psA_len]; show (k + 1) * 48 ≤ _; omega)
      simp only [h1, h2, h3, h4, h5, cond_true, Int.toNat_natCast, rows_at hk, wrap_succ (show k < 9223372036854775807 by omega)]
      show (⟨_, _⟩ : S3na) = _
      rw [psA_succ]
      rfl
    · subst hx
      show LpOK _ _ (stp3na cs false (l.map rowP) 0 0 0 (l.length : Int) (psA l l.length))
      unfold stp3na
      have h1 : decide ((l.length : Int) < ((l.map rowP).length : Int)) = false := by rw [List.length_map]; exact lt_false _
      rw [h1]
      rfl
  obtain ⟨y, hy, hq⟩ := hr
  cases y with
  | x0 t m =>
    simp only at hq
    subst hq
    exact ⟨by unfold i3na_0; rw [hy], by unfold v3na_0_m22_3; rw [hy]⟩
theorem check29 {l : PL} {L : Int} (hl : l.length ≤ 10) (hw : ∀ i, i < l.length → 1 ≤ (gP l i).1.w ∧ (gP l i).1.w ≤ 100) (h0 : 0 ≤ L) (h1 : L ≤ 2000) : w29_0 L 0 0 (psA l l.length) = 0 := by
  have hlen := psA_len l l.length
  have f0 : ∀ i, fS (pcA l i) 0 = nmA i := fun _ => rfl
  have f1 : ∀ i, fI (pcA l i) 1 = (gP l i).1.w := fun _ => rfl
  have f2 : ∀ i, fI (pcA l i) 2 = 0 := fun _ => rfl
  have f3 : ∀ i, fI (pcA l i) 3 = 0 := fun _ => rfl
  have f4 : ∀ i, fI (pcA l i) 4 = (i : Int) := fun _ => rfl
  have hA : ∃ y, r29a L 0 0 (psA l l.length) 0 (psA l l.length) (l.length : Int) 0 [] = some y ∧ (match y with
      | .x0 _ _ _ => False
      | .x1 _ _ => True) := by
    unfold r29a
    refine run_cnt l.length (fun k x => ∃ m, x = (⟨(k : Int), m⟩ : S29a) ∧ ∀ j, k ≤ j → j < 10 → mget (.s (nmA j)) m = none) _ (fun k x hk hx => ?_) (fun x hx => ?_) _ ⟨[], rfl, fun _ _ _ => rfl⟩
    · obtain ⟨m, rfl, hm⟩ := hx
      show LpOK _ _ (stp29a L 0 0 (psA l l.length) 0 (psA l l.length) (l.length : Int) (k : Int) m)
      unfold stp29a
      have e2 : inb (k : Int) (psA l l.length).length = true := by rw [hlen]; exact inb_true hk
      obtain ⟨w1, w2⟩ := hw k hk
      have e3 : (decide (1 ≤ (gP l k).1.w) && decide ((gP l k).1.w ≤ 2000)) = true := by simp only [Bool.and_eq_true, decide_eq_true_eq]; omega
      have e4 : (decide ((0 : Int) ≤ 0) && decide ((0 : Int) ≤ 9)) = true := by decide
      simp only [lt_true hk, e2, cond_true, Int.toNat_natCast, psA_at hk, f0, f1, f2, f3, g61_true, name61 (show k < 10 by omega), hm k (Nat.le_refl _) (by omega), g55_true, w55_eq, e3, e4, Bool.not_true, cond_false, Option.getD_none, wrap_succ (show k < 9223372036854775807 by omega)]
      refine ⟨_, rfl, fun j hj hj' => ?_⟩
      rw [mget_mset_s, if_neg (nmA_ne hj' (by omega) (by omega))]
      exact hm j (by omega) hj'
    · obtain ⟨m, rfl, hm⟩ := hx
      show LpOK _ _ (stp29a L 0 0 (psA l l.length) 0 (psA l l.length) (l.length : Int) (l.length : Int) m)
      unfold stp29a
      simp only [lt_false, cond_false]
      trivial
  have hB : ∃ y, r29b L 0 0 (psA l l.length) 0 (psA l l.length) (l.length : Int) 0 = some y ∧ (match y with
      | .x0 _ _ => False
      | .x1 _ => True) := by
    unfold r29b
    refine run_cnt l.length (fun k x => x = (⟨(k : Int)⟩ : S29b)) _ (fun k x hk hx => ?_) (fun x hx => ?_) _ rfl
    · subst hx
      show LpOK _ _ (stp29b L 0 0 (psA l l.length) 0 (psA l l.length) (l.length : Int) (k : Int))
      unfold stp29b
      have e2 : inb (k : Int) (psA l l.length).length = true := by rw [hlen]; exact inb_true hk
      have ew : IntKind.i64.wrap (((psA l l.length).length : Int) - 1) = (l.length : Int) - 1 := by rw [hlen, wrap64 (by omega) (by omega)]
      have e3 : (decide (0 ≤ (k : Int)) && decide ((k : Int) ≤ (l.length : Int) - 1)) = true := by simp only [Bool.and_eq_true, decide_eq_true_eq]; omega
      have e5 : ((k : Int) != (k : Int)) = false := by simp
      simp only [lt_true hk, e2, cond_true, Int.toNat_natCast, psA_at hk, f0, f1, f2, f3, f4, g55_true, w55_eq, ew, e3, Bool.not_true, cond_false, e5, wrap_succ (show k < 9223372036854775807 by omega)]
      have e6 : ∀ a b c d e : Int, w62_0 (nmA k) a 0 0 d = w63_0 (nmA k) a 0 0 d ∧ w62_1 (nmA k) a 0 0 d = w63_1 (nmA k) a 0 0 d ∧ w62_2 (nmA k) a 0 0 d = w63_2 (nmA k) a 0 0 d ∧ w62_3 (nmA k) a 0 0 d = w63_3 (nmA k) a 0 0 d ∧ w62_4 (nmA k) a 0 0 d = w63_4 (nmA k) a 0 0 d := fun a b c d e => ⟨rfl, rfl, rfl, rfl, rfl⟩
      obtain ⟨q0, q1, q2, q3, q4⟩ := e6 (gP l k).1.w 0 0 (k : Int) 0
      rw [q0, q1, q2, q3]
      simp only [beq_self_eq_true, Bool.and_true, Bool.not_true, cond_false]
      rfl
    · subst hx
      show LpOK _ _ (stp29b L 0 0 (psA l l.length) 0 (psA l l.length) (l.length : Int) (l.length : Int))
      unfold stp29b
      simp only [lt_false, cond_false]
      trivial
  obtain ⟨y, hy, hq⟩ := hA
  obtain ⟨z, hz, hq2⟩ := hB
  cases y with
  | x0 _ _ _ => exact hq.elim
  | x1 a b =>
  cases z with
  | x0 _ _ => exact hq2.elim
  | x1 c =>
  unfold w29_0 t29
  have e1 : (decide (0 ≤ L) && decide (L ≤ 2000)) = true := by simp only [Bool.and_eq_true, decide_eq_true_eq]; omega
  have e4 : (decide ((0 : Int) ≤ 0) && decide ((0 : Int) ≤ 9)) = true := by decide
  have e5 : decide ((l.length : Int) > 10) = false := decide_eq_false (by omega)
  simp only [g55_true, w55_eq, e1, e4, hlen, e5, Bool.not_true]
  unfold i29a_0 i29a_1 i29b_0 i29b_1
  rw [hy, hz]
  rfl
end Go.Proofs.Ytfbfohkgajeopac

set_option maxRecDepth 100000
set_option linter.unusedVariables false
namespace Go.Proofs.Ytfbfohkgajeopac
open Go Go.Ev

def unP (r : List AV) : K4 × Nat := (⟨fI r 0, fI r 1, fI r 2, fI r 3⟩, (fI r 4).toNat)
theorem unP_row (p : K4 × Nat) : unP (rowP p) = p := rfl
theorem perm_rows {m : PL} {acc : List (List AV)} (h : acc.Perm (m.map rowP)) : ∃ l : PL, l.Perm m ∧ acc = l.map rowP := by
  refine ⟨acc.map unP, ?_, ?_⟩
  · have := h.map unP
    rw [List.map_map] at this
    have e : m.map (unP ∘ rowP) = m := by
      rw [show (unP ∘ rowP) = id from funext unP_row, List.map_id]
    rwa [e] at this
  · rw [List.map_map]
    refine (List.map_id acc).symm.trans (List.map_congr_left fun x hx => ?_)
    obtain ⟨p, _, rfl⟩ := List.mem_map.1 (h.mem_iff.1 hx)
    rfl
theorem mkP_nd (ks : List K4) : ((mkP ks).map (·.1)).Nodup := (mkP_good ks).nd
theorem rows6 (m : PL) : (m.map enA).map rowOf = m.map rowP := by rw [List.map_map]; rfl
theorem piles6 {cs : List (List AV)} (hn : cs.length ≤ 24) (h2 : ∀ j, j < cs.length → (bsA cs j).length ≤ 200) (ht : totA cs cs.length ≤ 12 ∨ 96 < totA cs cs.length) :
    g6q cs = true ∧ (w6q_1 cs ≠ 0 → w6q_0 cs = []) ∧
    (w6q_1 cs = 0 → ∃ l : PL, l.Perm (mkP (keysA cs cs.length)) ∧ w6q_0 cs = l.map rowP ∧ totA cs cs.length ≤ 12 ∧ ∀ j, j < cs.length → ∀ b, b ∈ bsA cs j → okW b) := by
  obtain ⟨hg, hc⟩ := check16 hn h2
  by_cases h0 : w16n_0 cs = 0
  · obtain ⟨c1, c2⟩ := hc h0
    have ht : totA cs cs.length ≤ 12 := by omega
    obtain ⟨hi, hM⟩ := map6 hn (by omega)
    have hkl := keysA_len cs cs.length
    have hml := mkP_len (keysA cs cs.length)
    have hf : (w16n_0 cs != 0) = false := by simp [h0]
    -- sorted
    obtain ⟨s1, l, s2, s3, s4⟩ := sort17 (l0 := mkP (keysA cs cs.length)) (by omega) (mkP_nd _)
    have hw : w6q_0 cs = l.map rowP := by
      unfold w6q_0
      rw [hf, hM, rows6, List.length_map]
      cases hmk : mkP (keysA cs cs.length) with
      | nil =>
        rw [hmk] at s2
        rw [List.perm_nil.1 s2]
        rfl
      | cons x r =>
        rw [hmk] at s4
        exact s4
    have hok : Ok6 cs := by
      right
      rw [hM]
      refine ⟨fun i hi => ?_, by rw [List.length_map]; omega, fun acc hp => ?_⟩
      · have hi' : i < (mkP (keysA cs cs.length)).length := by simpa using hi
        have e : ((mkP (keysA cs cs.length)).map enA).getD i (.u, .u) = enA ((mkP (keysA cs cs.length))[i]) := by simp [List.getD_eq_getElem?_getD, hi']
        generalize (mkP (keysA cs cs.length))[i] = p at e
        exact ⟨p.1.w, p.1.l, p.1.t, p.1.h, (p.2 : Int), e⟩
      · rw [rows6] at hp
        obtain ⟨l', p1, rfl⟩ := perm_rows hp
        have hl' : l'.length = (mkP (keysA cs cs.length)).length := p1.length_eq
        obtain ⟨q1, l2, q2, q3, q4⟩ := sort17 (l0 := l') (by omega) ((p1.map _).nodup_iff.2 (mkP_nd _))
        have e : l2 = l := by
          refine pair_uniq (srt_pair (by rw [q2.length_eq]; exact q3)) (srt_pair (by rw [s2.length_eq]; exact s3)) ((q2.trans p1).trans s2.symm)
        rw [List.length_map, hw]
        exact ⟨q1, by rw [q4, e], by rw [List.length_map, s2.length_eq, hl']⟩
    refine ⟨?_, fun h => absurd h0 h, fun _ => ⟨l, s2, hw, ht, c2⟩⟩
    unfold g6q
    rw [hg, hf, hi]
    simp only [Bool.true_and, Bool.false_or]
    exact @decide_eq_true _ (Classical.propDecidable _) hok
  · have hf : (w16n_0 cs != 0) = true := by simpa using h0
    refine ⟨?_, fun _ => ?_, fun h => absurd h h0⟩
    · unfold g6q
      rw [hg, hf]; rfl
    · unfold w6q_0
      rw [hf]; rfl
end Go.Proofs.Ytfbfohkgajeopac

set_option maxRecDepth 100000
set_option linter.unusedVariables false
namespace Go.Proofs.Ytfbfohkgajeopac
open Go Go.Ev

def fxP (l : PL) (k : K4) : Nat → Int
  | 0 => -1
  | j + 1 => if (gP l j).1 = k then (j : Int) else fxP l k j
theorem fxP_find {l : PL} (hnd : (l.map (·.1)).Nodup) {i : Nat} (hi : i < l.length) : ∀ j, i < j → j ≤ l.length → fxP l (gP l i).1 j = (i : Int)
  | 0, h, _ => by omega
  | j + 1, h, hj => by
    unfold fxP
    by_cases e : i = j
    · subst e; rw [if_pos rfl]
    · rw [if_neg (keys_ne hnd (by omega) hi (by omega))]
      exact fxP_find hnd hi j (by omega) (by omega)
def ixP (l : PL) (k : K4) : Nat := (fxP l k l.length).toNat
theorem ixP_spec {l : PL} (hnd : (l.map (·.1)).Nodup) {k : K4} (hk : k ∈ l.map (·.1)) : fxP l k l.length = (ixP l k : Int) ∧ ixP l k < l.length ∧ (gP l (ixP l k)).1 = k := by
  obtain ⟨p, hp, rfl⟩ := List.mem_map.1 hk
  obtain ⟨i, hi, rfl⟩ := List.getElem_of_mem hp
  have h := fxP_find hnd hi l.length hi (Nat.le_refl _)
  rw [gP_at hi] at h
  have e : ixP l l[i].1 = i := by unfold ixP; rw [h]; rfl
  rw [e]
  exact ⟨h, hi, by rw [gP_at hi]⟩
theorem ixP_at {l : PL} (hnd : (l.map (·.1)).Nodup) {i : Nat} (hi : i < l.length) : ixP l (gP l i).1 = i := by
  unfold ixP
  rw [fxP_find hnd hi l.length hi (Nat.le_refl _)]; rfl
theorem beq4 (a b : K4) : (a.w == b.w && (a.l == b.l && (a.t == b.t && a.h == b.h))) = decide (a = b) := by
  cases a with
  | mk a1 a2 a3 a4 =>
  cases b with
  | mk b1 b2 b3 b4 =>
  simp only [K4.mk.injEq]
  by_cases h1 : a1 = b1 <;> by_cases h2 : a2 = b2 <;> by_cases h3 : a3 = b3 <;> by_cases h4 : a4 = b4 <;> simp [h1, h2, h3, h4]
theorem find3 {cs : List (List AV)} {l : PL} {t7 : Nat} {t8 : Int} {t9 : List (List AV)} {t10 m0 m1 m2 : Int} {m3 m26 : List (List AV)} {u : Int} (k : K4) {e : Int} (hl : l.length ≤ 1000) :
    i3nbaa_0 cs false (l.map rowP) t7 t8 t9 t10 m0 m1 m2 m3 m26 u k.w k.l e k.t k.h (-1) 0 = true ∧ v3nbaa_0_t12 cs false (l.map rowP) t7 t8 t9 t10 m0 m1 m2 m3 m26 u k.w k.l e k.t k.h (-1) 0 = fxP l k l.length := by
  have hr : ∃ y, r3nbaa cs false (l.map rowP) t7 t8 t9 t10 m0 m1 m2 m3 m26 u k.w k.l e k.t k.h (-1) 0 = some y ∧ (match y with | .x0 v _ => v = fxP l k l.length) := by
    unfold r3nbaa
    refine run_cnt l.length (fun j x => x = (⟨fxP l k j, (j : Int)⟩ : S3nbaa)) _ (fun j x hj hx => ?_) (fun x hx => ?_) _ rfl
    · subst hx
      show LpOK _ _ (stp3nbaa cs false (l.map rowP) t7 t8 t9 t10 m0 m1 m2 m3 m26 u k.w k.l e k.t k.h (fxP l k j) (j : Int))
      unfold stp3nbaa
      have h1 : decide ((j : Int) < ((l.map rowP).length : Int)) = true := by rw [List.length_map]; exact lt_true hj
      have h2 : inb (j : Int) (l.map rowP).length = true := by rw [List.length_map]; exact inb_true hj
      have f0 : ∀ p : K4 × Nat, fI (rowP p) 0 = p.1.w := fun _ => rfl
      have f1 : ∀ p : K4 × Nat, fI (rowP p) 1 = p.1.l := fun _ => rfl
      have f2 : ∀ p : K4 × Nat, fI (rowP p) 2 = p.1.t := fun _ => rfl
      have f3 : ∀ p : K4 × Nat, fI (rowP p) 3 = p.1.h := fun _ => rfl
      simp only [h1, h2, cond_true, Int.toNat_natCast, rows_at hj, f0, f1, f2, f3, beq4, wrap_succ (show j < 9223372036854775807 by omega)]
      have hs : fxP l k (j + 1) = if (gP l j).1 = k then (j : Int) else fxP l k j := rfl
      refine .cond (fun h => ?_) (fun h => ?_)
      · show (⟨_, _⟩ : S3nbaa) = _
        rw [hs, if_pos (of_decide_eq_true h)]
      · show (⟨_, _⟩ : S3nbaa) = _
        rw [hs, if_neg (of_decide_eq_false h)]
    · subst hx
      show LpOK _ _ (stp3nbaa cs false (l.map rowP) t7 t8 t9 t10 m0 m1 m2 m3 m26 u k.w k.l e k.t k.h (fxP l k l.length) (l.length : Int))
      unfold stp3nbaa
      have h1 : decide ((l.length : Int) < ((l.map rowP).length : Int)) = false := by rw [List.length_map]; exact lt_false _
      rw [h1]
      rfl
  obtain ⟨y, hy, hq⟩ := hr
  cases y with
  | x0 a b =>
    simp only at hq
    subst hq
    exact ⟨by unfold i3nbaa_0; rw [hy], by unfold v3nbaa_0_t12; rw [hy]⟩
def rowC (l : PL) (bs : List (List AV)) : List Nat := bs.map fun b => ixP l (kyA b)
def sumW : List (List AV) → Int
  | [] => 0
  | b :: r => fI b 1 + sumW r
theorem sumW_app (a b : List (List AV)) : sumW (a ++ b) = sumW a + sumW b := by
  induction a with
  | nil => simp [sumW]
  | cons x a ih => simp only [List.cons_append, sumW, ih]; omega
theorem sumW_le {bs : List (List AV)} (h : ∀ b, b ∈ bs → okW b) : 0 ≤ sumW bs ∧ sumW bs ≤ 100 * (bs.length : Int) := by
  induction bs with
  | nil => simp [sumW]
  | cons b r ih =>
    obtain ⟨i1, i2⟩ := ih fun x hx => h x (List.mem_cons_of_mem _ hx)
    obtain ⟨h1, h2⟩ := h b (by simp)
    simp only [sumW, List.length_cons]
    omega
theorem take_succ' {bs : List (List AV)} {m : Nat} (h : m < bs.length) : bs.take (m + 1) = bs.take m ++ [bs.getD m []] := by
  rw [List.take_add_one, List.getElem?_eq_getElem h]
  simp [List.getD_eq_getElem?_getD, List.getElem?_eq_getElem h]
theorem getD_in {bs : List (List AV)} {m : Nat} (h : m < bs.length) : bs.getD m [] ∈ bs := by
  simp [List.getD_eq_getElem?_getD, List.getElem?_eq_getElem h]
theorem course3 {cs : List (List AV)} {l : PL} {t7 : Nat} {k : Nat} {m3 m26 : List (List AV)} (hl : l.length ≤ 1000) (hnd : (l.map (·.1)).Nodup) (hk : k < cs.length) (hc : cs.length ≤ 24) (hb : (bsA cs k).length ≤ 200)
    (hin : ∀ b, b ∈ bsA cs k → kyA b ∈ l.map (·.1)) (hok : ∀ b, b ∈ bsA cs k → okW b) :
    i3nba_0 cs false (l.map rowP) t7 (k : Int) 0 0 m3 m26 [] 0 0 = false ∧ i3nba_1 cs false (l.map rowP) t7 (k : Int) 0 0 m3 m26 [] 0 0 = true ∧
    v3nba_1_t9 cs false (l.map rowP) t7 (k : Int) 0 0 m3 m26 [] 0 0 = rowAV (rowC l (bsA cs k)) ∧ v3nba_1_m22_0 cs false (l.map rowP) t7 (k : Int) 0 0 m3 m26 [] 0 0 = sumW (bsA cs k) := by
  have hr : ∃ y, r3nba cs false (l.map rowP) t7 (k : Int) 0 0 m3 m26 [] 0 0 = some y ∧ (match y with
      | .x0 _ _ _ _ => False
      | .x1 a _ b => a = rowAV (rowC l (bsA cs k)) ∧ b = sumW (bsA cs k)) := by
    unfold r3nba
    refine run_cnt (bsA cs k).length (fun m x => x = (⟨rowAV (rowC l ((bsA cs k).take m)), (m : Int), sumW ((bsA cs k).take m)⟩ : S3nba)) _ (fun m x hm hx => ?_) (fun x hx => ?_) _ rfl
    · subst hx
      show LpOK _ _ (stp3nba cs false (l.map rowP) t7 (k : Int) 0 0 m3 m26 (rowAV (rowC l ((bsA cs k).take m))) (m : Int) (sumW ((bsA cs k).take m)))
      unfold stp3nba
      have hbs : fE (cs.getD k []) 1 = bsA cs k := rfl
      have hmem := getD_in hm
      obtain ⟨f1, f2⟩ := find3 (cs := cs) (l := l) (t7 := t7) (t8 := (k : Int)) (t9 := rowAV (rowC l ((bsA cs k).take m))) (t10 := (m : Int)) (m0 := sumW ((bsA cs k).take m)) (m1 := 0) (m2 := 0) (m3 := m3) (m26 := m26) (u := fI ((bsA cs k).getD m []) 0) (kyA ((bsA cs k).getD m [])) (e := fI ((bsA cs k).getD m []) 3) hl
      obtain ⟨s1, s2, s3⟩ := ixP_spec hnd (hin _ hmem)
      rw [s1] at f2
      have hlen : (rowAV (rowC l ((bsA cs k).take m))).length = m := by
        rw [rowAV_len, rowC, List.length_map, List.length_take]; omega
      have h4 : ∀ x : List AV, (Nat.ble ((rowAV (rowC l ((bsA cs k).take m))).length + [x].length) 9223372036854775807 && true) = true := fun x => by
        rw [Bool.and_true]; exact Nat.ble_eq_true_of_le (by rw [hlen]; show m + 1 ≤ _; omega)
      have h5 : ∀ x : List AV, Nat.ble (((rowAV (rowC l ((bsA cs k).take m))).length + [x].length) * 8) 140737488355328 = true := fun x => Nat.ble_eq_true_of_le (by rw [hlen]; show (m + 1) * 8 ≤ _; omega)
      obtain ⟨w1, w2⟩ := sumW_le (bs := (bsA cs k).take m) fun b hb' => hok b (List.mem_of_mem_take hb')
      obtain ⟨o1, o2⟩ := hok _ hmem
      have htl : ((bsA cs k).take m).length ≤ 200 := by rw [List.length_take]; omega
      have h7 : IntKind.i64.wrap (sumW ((bsA cs k).take m) + fI ((bsA cs k).getD m []) 1) = sumW ((bsA cs k).take (m + 1)) := by
        rw [wrap64 (by omega) (by omega), take_succ' hm, sumW_app]
        simp only [sumW]
        omega
      simp only [kyA] at f1 f2
      simp only [lt_true hm, inb_true hk, inb_true hm, cond_true, Int.toNat_natCast, hbs, f1, f2]
      refine .cond (fun h => absurd (of_decide_eq_true h) (by omega)) (fun _ => ?_)
      simp only [h4, h5, cond_true, wrap_succ (show m < 9223372036854775807 by omega), h7]
      show (⟨_, _, _⟩ : S3nba) = _
      rw [take_succ' hm]
      simp only [rowC, List.map_append, rowAV_app]
      rfl
    · subst hx
      show LpOK _ _ (stp3nba cs false (l.map rowP) t7 (k : Int) 0 0 m3 m26 (rowAV (rowC l ((bsA cs k).take (bsA cs k).length))) ((bsA cs k).length : Int) (sumW ((bsA cs k).take (bsA cs k).length)))
      unfold stp3nba
      have hbs : fE (cs.getD k []) 1 = bsA cs k := rfl
      simp only [inb_true hk, cond_true, Int.toNat_natCast, hbs, lt_false, cond_false]
      rw [List.take_length]
      exact ⟨rfl, rfl⟩
  obtain ⟨y, hy, hq⟩ := hr
  cases y with
  | x0 _ _ _ _ => exact hq.elim
  | x1 a b c =>
    obtain ⟨rfl, rfl⟩ := hq
    exact ⟨by unfold i3nba_0; rw [hy], by unfold i3nba_1; rw [hy], by unfold v3nba_1_t9; rw [hy], by unfold v3nba_1_m22_0; rw [hy]⟩
end Go.Proofs.Ytfbfohkgajeopac

set_option maxRecDepth 100000
set_option linter.unusedVariables false
namespace Go.Proofs.Ytfbfohkgajeopac
open Go Go.Ev

theorem fits_NthR {ps : List (List AV)} {c : Nat} (hps : okPs ps) : ∀ {row : List Nat} {n h : Nat}, cnt ps c n h ≤ 1000000000000000 → fitsL ps (c : Int) (n : Int) (h : Int) (rowI row) = true → NthR ps c n h (rankL ps c n h (rowI row)) row
  | [], n, h, hs, hf => by
    simp only [rowI, List.map_nil, fitsL, Bool.and_eq_true, beq_iff_eq] at hf
    have h1 : n = 0 := by omega
    have h2 : h = c := by omega
    subst h1; subst h2
    exact .nil
  | i :: row, n, h, hs, hf => by
    obtain ⟨q, hq, hql, h1, h2, h3, h4⟩ := fitsL_cons hps (show fitsL ps (c : Int) (n : Int) (h : Int) ((i : Int) :: rowI row) = true from hf)
    have e : q = i := by omega
    subst e
    have hsu := sm_succ (c := c) (h := h) hps h3 hql hs
    rw [if_pos ⟨h1, h2⟩] at hsu
    have hl1 := sm_le (c := c) (h := h) hps h3 (q + 1)
    have hl0 := sm_le (c := c) (h := h) hps h3 q
    have hs' : cnt ps c (n - wd ps q) (rt ps q) ≤ 1000000000000000 := by omega
    obtain ⟨r1, r2⟩ := rankL_lt hps hs' h4
    have ih := fits_NthR hps hs' h4
    have er : rankL ps c n h (rowI (q :: row)) = sm ps c n h q + rankL ps c (n - wd ps q) (rt ps q) (rowI row) := by
      show sm ps c n h ((q : Nat) : Int).toNat + rankL ps c (n - wd ps ((q : Nat) : Int).toNat) (rt ps ((q : Nat) : Int).toNat) (rowI row) = _
      rw [Int.toNat_natCast]
    rw [er]
    refine .cons h3 hql (by omega) (by omega) ?_
    rw [show sm ps c n h q + rankL ps c (n - wd ps q) (rt ps q) (rowI row) - sm ps c n h q = rankL ps c (n - wd ps q) (rt ps q) (rowI row) by omega]
    exact ih
theorem fits_row {l : PL} (hnd : (l.map (·.1)).Nodup) : ∀ {bs : List (List AV)} , (∀ b, b ∈ bs → kyA b ∈ l.map (·.1)) → (∀ b, b ∈ bs → okW b) → fitsL (psA l l.length) 0 (sumW bs) 0 (rowI (rowC l bs)) = true
  | [], _, _ => rfl
  | b :: bs, hin, hok => by
    obtain ⟨s1, s2, s3⟩ := ixP_spec hnd (hin b (by simp))
    have ih := fits_row hnd (bs := bs) (fun x hx => hin x (List.mem_cons_of_mem _ hx)) (fun x hx => hok x (List.mem_cons_of_mem _ hx))
    obtain ⟨w1, w2⟩ := sumW_le (bs := bs) fun x hx => hok x (List.mem_cons_of_mem _ hx)
    have hp : pk (psA l l.length) ((ixP l (kyA b) : Nat) : Int) = pcA l (ixP l (kyA b)) := by
      unfold pk
      rw [Int.toNat_natCast]
      exact psA_at s2
    have hw : (gP l (ixP l (kyA b))).1.w = fI b 1 := by rw [s3]; rfl
    show (isK (psA l l.length) ((ixP l (kyA b) : Nat) : Int) && (fI (pk (psA l l.length) ((ixP l (kyA b) : Nat) : Int)) 2 == 0 && decide (fI (pk (psA l l.length) ((ixP l (kyA b) : Nat) : Int)) 1 ≤ sumW (b :: bs)) && fitsL (psA l l.length) 0 (sumW (b :: bs) - fI (pk (psA l l.length) ((ixP l (kyA b) : Nat) : Int)) 1) (fI (pk (psA l l.length) ((ixP l (kyA b) : Nat) : Int)) 3) (rowI (rowC l bs)))) = true
    rw [hp]
    have f1 : fI (pcA l (ixP l (kyA b))) 1 = fI b 1 := hw
    have f2 : fI (pcA l (ixP l (kyA b))) 2 = 0 := rfl
    have f3 : fI (pcA l (ixP l (kyA b))) 3 = 0 := rfl
    have hK : isK (psA l l.length) ((ixP l (kyA b) : Nat) : Int) = true := by
      unfold isK
      rw [psA_len]
      simp only [Bool.and_eq_true, decide_eq_true_eq]
      omega
    have hs : sumW (b :: bs) - fI b 1 = sumW bs := by simp only [sumW]; omega
    rw [f1, f2, f3, hK, hs, ih]
    have hd : decide (fI b 1 ≤ sumW (b :: bs)) = true := decide_eq_true (by simp only [sumW]; omega)
    rw [hd]
    rfl
theorem cntIn_row {l : PL} (hnd : (l.map (·.1)).Nodup) {i : Nat} (hi : i < l.length) : ∀ {bs : List (List AV)}, (∀ b, b ∈ bs → kyA b ∈ l.map (·.1)) → cntIn i (rowI (rowC l bs)) = (((bs.map kyA).count (gP l i).1 : Nat) : Int)
  | [], _ => rfl
  | b :: bs, hin => by
    obtain ⟨s1, s2, s3⟩ := ixP_spec hnd (hin b (by simp))
    have ih := cntIn_row hnd hi (bs := bs) (fun x hx => hin x (List.mem_cons_of_mem _ hx))
    show (if ((ixP l (kyA b) : Nat) : Int) = (i : Int) then 1 else 0) + cntIn i (rowI (rowC l bs)) = _
    rw [ih, List.map_cons, List.count_cons]
    by_cases e : ixP l (kyA b) = i
    · have e2 : kyA b = (gP l i).1 := by rw [← e, s3]
      rw [if_pos (by omega), e2]
      simp
      omega
    · have e2 : kyA b ≠ (gP l i).1 := fun e' => by
        apply e
        rw [e']
        exact ixP_at hnd hi
      rw [if_neg (by omega)]
      simp [e2]
theorem ridge3 {l : PL} (hl : l.length ≤ 10) (hw : ∀ i, i < l.length → 1 ≤ (gP l i).1.w ∧ (gP l i).1.w ≤ 100) (hnd : (l.map (·.1)).Nodup) {bs : List (List AV)} (hin : ∀ b, b ∈ bs → kyA b ∈ l.map (·.1)) (hok : ∀ b, b ∈ bs → okW b) (hlen : bs.length ≤ 200) (h300 : sumW bs ≤ 300) :
    (g30 (sumW bs) 0 0 (psA l l.length) (rowAV (rowC l bs)) = true ∧ w30_1 (sumW bs) 0 0 (psA l l.length) (rowAV (rowC l bs)) = 0 ∧ w30_0 (sumW bs) 0 0 (psA l l.length) (rowAV (rowC l bs)) = true) ∧
    (g34 (sumW bs) 0 0 (psA l l.length) (rowAV (rowC l bs)) = true ∧ w34_1 (sumW bs) 0 0 (psA l l.length) (rowAV (rowC l bs)) = 0 ∧ w34_0 (sumW bs) 0 0 (psA l l.length) (rowAV (rowC l bs)) = ones (fun j => cntIn j (rowI (rowC l bs))) l.length) ∧
    g42 (sumW bs) 0 0 (psA l l.length) (rowAV (rowC l bs)) = true ∧
    (w42_1 (sumW bs) 0 0 (psA l l.length) (rowAV (rowC l bs)) = 3 ∨
      (w42_1 (sumW bs) 0 0 (psA l l.length) (rowAV (rowC l bs)) = 0 ∧ g40 (sumW bs) 0 0 (psA l l.length) (w42_0 (sumW bs) 0 0 (psA l l.length) (rowAV (rowC l bs))) = true ∧
        w40_1 (sumW bs) 0 0 (psA l l.length) (w42_0 (sumW bs) 0 0 (psA l l.length) (rowAV (rowC l bs))) = 0 ∧ w40_0 (sumW bs) 0 0 (psA l l.length) (w42_0 (sumW bs) 0 0 (psA l l.length) (rowAV (rowC l bs))) = rowAV (rowC l bs))) := by
  obtain ⟨s0, s1⟩ := sumW_le hok
  obtain ⟨n, hn⟩ : ∃ n : Nat, sumW bs = (n : Int) := ⟨(sumW bs).toNat, by omega⟩
  have hfit := fits_row hnd hin hok
  have h29 := check29 (L := sumW bs) hl hw s0 (by omega)
  rw [hn] at hfit h29 ⊢
  have hn2 : n ≤ 300 := by omega
  have hF := fine_of h29
  have hrl : (rowAV (rowC l bs)).length < 9223372036854775807 := by rw [rowAV_len, rowC, List.length_map]; omega
  obtain ⟨a1, a2, a3⟩ := fitsE_val (ws := rowAV (rowC l bs)) hF h29 hrl
  obtain ⟨b1, b2, b3⟩ := needs_val (ws := rowAV (rowC l bs)) hF h29 hrl
  rw [nums_rowAV, hfit] at a3 b2 b3
  have e0 : ((0 : Nat) : Int) = 0 := rfl
  refine ⟨⟨a1, a2, a3⟩, ⟨b1, by simpa using b2, ?_⟩, ?_⟩
  · rw [b3, if_pos rfl]
    unfold needL
    rw [psA_len]
  · obtain ⟨c1, c2⟩ := counted_val (ps := psA l l.length) (n := n) (b := 0) (c := 0) hF.ps (by omega) (by omega) (by omega) h29
    rcases c2 with ⟨_, c2⟩ | ⟨c0, c2, c3⟩
    · obtain ⟨r1, r2, r3⟩ := rank_err (ps := psA l l.length) (ws := rowAV (rowC l bs)) (ra := (n : Int)) (rb := ((0 : Nat) : Int)) (rc := ((0 : Nat) : Int)) (by rw [c2]; decide) c1
      exact ⟨r1, .inl (r2.trans c2)⟩
    · obtain ⟨r1, r2, r3⟩ := rank_val (ps := psA l l.length) (ws := rowAV (rowC l bs)) (n := n) (b := 0) (c := 0) hF (by omega) (by omega) (by omega) h29 c0 hrl
      have hfit' : fitsL (psA l l.length) ((0 : Nat) : Int) (n : Int) ((0 : Nat) : Int) (rowI (rowC l bs)) = true := hfit
      rw [nums_rowAV, if_pos hfit'] at r2 r3
      obtain ⟨k1, k2⟩ := rankL_lt hF.ps c0 hfit'
      obtain ⟨row, n1, n2, n3, n4⟩ := nth_val (ps := psA l l.length) (n := n) (b := 0) (c := 0) hF.ps (by omega) (by omega) (by omega) h29 c0 ⟨k1, k2⟩
      have hrow : row = rowC l bs := NthR_uniq hF.ps n1 c0 (fits_NthR hF.ps c0 hfit')
      subst hrow
      refine ⟨r1, .inr ⟨r2, ?_⟩⟩
      have r3' : w42_0 (n : Int) 0 0 (psA l l.length) (rowAV (rowC l bs)) = rankL (psA l l.length) 0 n 0 (rowI (rowC l bs)) := r3
      rw [r3']
      exact ⟨n2, n3, n4⟩
end Go.Proofs.Ytfbfohkgajeopac

set_option maxRecDepth 100000
set_option linter.unusedVariables false
namespace Go.Proofs.Ytfbfohkgajeopac
open Go Go.Ev

theorem ones_eq {f g : Nat → Int} {N : Nat} (h : ∀ j, j < N → f j = g j) : ones f N = ones g N := by
  unfold ones
  exact List.map_congr_left fun j hj => by rw [h j (List.mem_range.1 hj)]
theorem sum3 {cs : List (List AV)} {t3 ws m3 : List (List AV)} {t8 a b m0 : Int} {n : Nat} {F C : Nat → Int} (hn : n ≤ 1000) (hF : ∀ j, j < n → 0 ≤ F j ∧ F j ≤ 100000) (hC : ∀ j, j < n → 0 ≤ C j ∧ C j ≤ 100000) :
    i3nbb_0 cs false t3 n t8 ws a (ones C n) b m0 0 0 m3 0 (ones F n) = true ∧ v3nbb_0_m26 cs false t3 n t8 ws a (ones C n) b m0 0 0 m3 0 (ones F n) = ones (fun j => F j + C j) n := by
  have hr : ∃ y, r3nbb cs false t3 n t8 ws a (ones C n) b m0 0 0 m3 0 (ones F n) = some y ∧ (match y with | .x0 _ m => m = ones (fun j => F j + C j) n) := by
    unfold r3nbb
    refine run_cnt n (fun k x => x = (⟨(k : Int), ones (fun j => if j < k then F j + C j else F j) n⟩ : S3nbb)) _ (fun k x hk hx => ?_) (fun x hx => ?_) _ ?_
    · subst hx
      show LpOK _ _ (stp3nbb cs false t3 n t8 ws a (ones C n) b m0 0 0 m3 (k : Int) (ones (fun j => if j < k then F j + C j else F j) n))
      unfold stp3nbb
      have b1 : Nat.blt k (ones (fun j => if j < k then F j + C j else F j) n).length = true := by rw [Nat.blt_eq, ones_len]; exact hk
      have e2 : inb (k : Int) (ones C n).length = true := by rw [ones_len]; exact inb_true hk
      have f1 : fI [AV.i .i64 (F k)] 0 = F k := rfl
      have f2 : fI [AV.i .i64 (C k)] 0 = C k := rfl
      obtain ⟨p1, p2⟩ := hF k hk
      obtain ⟨q1, q2⟩ := hC k hk
      have hw : IntKind.i64.wrap (F k + C k) = F k + C k := wrap64 (by omega) (by omega)
      have hs : ∀ v : Int, setCs [AV.i .i64 (F k)] 0 [AV.i .i64 v] = [AV.i .i64 v] := fun _ => rfl
      simp only [lt_true hk, inb_true hk, Int.toNat_natCast, Nat.zero_add, b1, Bool.and_true, cond_true, e2, ones_get hk, Nat.lt_irrefl, if_false, f1, f2, hw, hs, ones_set hk, wrap_succ (show k < 9223372036854775807 by omega)]
      show (⟨_, _⟩ : S3nbb) = _
      congr 1
      refine ones_eq fun j hj => ?_
      unfold upd
      by_cases e : j = k
      · subst e
        rw [if_pos rfl, if_pos (by omega)]
      · rw [if_neg e]
        show (if j < k then F j + C j else F j) = if j < k + 1 then F j + C j else F j
        by_cases e2 : j < k
        · rw [if_pos e2, if_pos (by omega)]
        · rw [if_neg e2, if_neg (by omega)]
    · subst hx
      show LpOK _ _ (stp3nbb cs false t3 n t8 ws a (ones C n) b m0 0 0 m3 (n : Int) (ones (fun j => if j < n then F j + C j else F j) n))
      unfold stp3nbb
      simp only [lt_false, cond_false]
      exact ones_eq fun j hj => by rw [if_pos hj]
    · show (⟨_, _⟩ : S3nbb) = _
      congr 1
  obtain ⟨y, hy, hq⟩ := hr
  cases y with
  | x0 t m =>
    simp only at hq
    subst hq
    exact ⟨by unfold i3nbb_0; rw [hy], by unfold v3nbb_0_m26; rw [hy]⟩
def cntP (cs : List (List AV)) (l : PL) (k j : Nat) : Int := (((keysA cs k).count (gP l j).1 : Nat) : Int)
theorem courses3 {cs : List (List AV)} {l : PL} (hc : cs.length ≤ 24) (hl : l.length ≤ 10) (hnd : (l.map (·.1)).Nodup) (hw : ∀ i, i < l.length → 1 ≤ (gP l i).1.w ∧ (gP l i).1.w ≤ 100)
    (h2 : ∀ j, j < cs.length → (bsA cs j).length ≤ 200) (hin : ∀ j, j < cs.length → ∀ b, b ∈ bsA cs j → kyA b ∈ l.map (·.1)) (hok : ∀ j, j < cs.length → ∀ b, b ∈ bsA cs j → okW b) :
    ∃ y, r3nb cs false (l.map rowP) l.length 0 0 (psA l l.length) 0 0 (ones (fun _ => 0) l.length) = some y ∧ (match y with
      | .x0 t _ _ _ => t = true
      | .x1 _ _ m => m = ones (cntP cs l cs.length) l.length) := by
  unfold r3nb
  refine run_cnt cs.length (fun k x => ∃ m0, x = (⟨(k : Int), m0, ones (cntP cs l k) l.length⟩ : S3nb)) _ (fun k x hk hx => ?_) (fun x hx => ?_) _ ⟨0, rfl⟩
  · obtain ⟨m0, rfl⟩ := hx
    obtain ⟨c1, c2, c3, c4⟩ := course3 (cs := cs) (l := l) (t7 := l.length) (k := k) (m3 := psA l l.length) (m26 := ones (cntP cs l k) l.length) (by omega) hnd hk hc (h2 k hk) (hin k hk) (hok k hk)
    show LpOK _ _ (stp3nb cs false (l.map rowP) l.length 0 0 (psA l l.length) (k : Int) m0 (ones (cntP cs l k) l.length))
    unfold stp3nb
    simp only [lt_true hk, cond_true, c1, cond_false, c2, c3, c4]
    refine .cond (fun h => rfl) (fun h => ?_)
    have h300 : sumW (bsA cs k) ≤ 300 := by have := of_decide_eq_false h; omega
    obtain ⟨⟨a1, a2, a3⟩, ⟨b1, b2, b3⟩, d1, d2⟩ := ridge3 hl hw hnd (hin k hk) (hok k hk) (h2 k hk) h300
    have hcl := keysA_len cs k
    have htl := totA_le cs k fun j hj => h2 j (by omega)
    have hF : ∀ j, j < l.length → 0 ≤ cntP cs l k j ∧ cntP cs l k j ≤ 100000 := fun j hj => by
      have : (keysA cs k).count (gP l j).1 ≤ (keysA cs k).length := List.count_le_length
      unfold cntP
      omega
    have hC : ∀ j, j < l.length → 0 ≤ cntIn j (rowI (rowC l (bsA cs k))) ∧ cntIn j (rowI (rowC l (bsA cs k))) ≤ 100000 := fun j hj => by
      rw [cntIn_row hnd hj (hin k hk)]
      have : ((bsA cs k).map kyA).count (gP l j).1 ≤ ((bsA cs k).map kyA).length := List.count_le_length
      rw [List.length_map] at this
      have := h2 k hk
      omega
    obtain ⟨s1, s2⟩ := sum3 (cs := cs) (t3 := l.map rowP) (ws := rowAV (rowC l (bsA cs k))) (m3 := psA l l.length) (t8 := (k : Int)) (a := w30_1 (sumW (bsA cs k)) 0 0 (psA l l.length) (rowAV (rowC l (bsA cs k)))) (b := w34_1 (sumW (bsA cs k)) 0 0 (psA l l.length) (rowAV (rowC l (bsA cs k)))) (m0 := sumW (bsA cs k)) (n := l.length) (by omega) hF hC
    have hsum : ones (fun j => cntP cs l k j + cntIn j (rowI (rowC l (bsA cs k)))) l.length = ones (cntP cs l (k + 1)) l.length := ones_eq fun j hj => by
      rw [cntIn_row hnd hj (hin k hk)]
      unfold cntP
      simp only [keysA, List.count_append]
      omega
    rw [hsum] at s2
    rw [← b3] at s1 s2
    have e0 : ((0 : Int) != 0) = false := by decide
    have hlen : ((((w34_0 (sumW (bsA cs k)) 0 0 (psA l l.length) (rowAV (rowC l (bsA cs k)))).length : Nat) : Int) != ((l.length : Nat) : Int)) = false := by rw [b3, ones_len]; simp
    rw [a1, b1, cond_true, cond_true, hlen, s1, s2, d1, a2, b2, a3, e0]
    simp only [cond_false, cond_true, Bool.not_true, wrap_succ (show k < 9223372036854775807 by omega)]
    rcases d2 with d2 | ⟨d2, d3, d4, d5⟩
    · rw [d2]
      exact ⟨_, rfl⟩
    · have hsr := same_refl (xs := rowAV (rowC l (bsA cs k))) (by rw [rowAV_len, rowC, List.length_map]; have := h2 k hk; omega)
      rw [d2, d3, d4, d5, hsr.1, hsr.2]
      exact ⟨_, rfl⟩
  · obtain ⟨m0, rfl⟩ := hx
    show LpOK _ _ (stp3nb cs false (l.map rowP) l.length 0 0 (psA l l.length) (cs.length : Int) m0 (ones (cntP cs l cs.length) l.length))
    unfold stp3nb
    simp only [lt_false, cond_false]
    rfl
theorem piles3 {l : PL} {m0 : Int} {m3 : List (List AV)} {F : Nat → Int} (hl : l.length ≤ 10) (hF : ∀ j, j < l.length → ((gP l j).2 : Int) = F j) :
    i3nc_0 false (l.map rowP) l.length m0 0 0 m3 (ones F l.length) 0 = false ∧ i3nc_1 false (l.map rowP) l.length m0 0 0 m3 (ones F l.length) 0 = true := by
  have hr : ∃ y, r3nc false (l.map rowP) l.length m0 0 0 m3 (ones F l.length) 0 = some y ∧ (match y with
      | .x0 _ _ => False
      | .x1 _ => True) := by
    unfold r3nc
    refine run_cnt l.length (fun k x => x = (⟨(k : Int)⟩ : S3nc)) _ (fun k x hk hx => ?_) (fun x hx => ?_) _ rfl
    · subst hx
      show LpOK _ _ (stp3nc false (l.map rowP) l.length m0 0 0 m3 (ones F l.length) (k : Int))
      unfold stp3nc
      have h1 : decide ((k : Int) < ((l.map rowP).length : Int)) = true := by rw [List.length_map]; exact lt_true hk
      have h2 : inb (k : Int) (l.map rowP).length = true := by rw [List.length_map]; exact inb_true hk
      have b1 : Nat.blt k (ones F l.length).length = true := by rw [Nat.blt_eq, ones_len]; exact hk
      have f1 : fI [AV.i .i64 (F k)] 0 = F k := rfl
      have f4 : ∀ p : K4 × Nat, fI (rowP p) 4 = (p.2 : Int) := fun _ => rfl
      have e : ((F k) != (F k)) = false := by simp
      simp only [h1, h2, inb_true hk, Int.toNat_natCast, Nat.zero_add, b1, Bool.and_true, cond_true, rows_at hk, ones_get hk, f1, f4, hF k hk, e, cond_false, wrap_succ (show k < 9223372036854775807 by omega)]
      rfl
    · subst hx
      show LpOK _ _ (stp3nc false (l.map rowP) l.length m0 0 0 m3 (ones F l.length) (l.length : Int))
      unfold stp3nc
      have h1 : decide ((l.length : Int) < ((l.map rowP).length : Int)) = false := by rw [List.length_map]; exact lt_false _
      rw [h1]
      trivial
  obtain ⟨y, hy, hq⟩ := hr
  cases y with
  | x0 _ _ => exact hq.elim
  | x1 t => exact ⟨by unfold i3nc_0; rw [hy], by unfold i3nc_1; rw [hy]⟩
theorem law3 (cs : List (List AV)) : g3n cs = true ∧ w3n_0 cs = true := by
  have h := TrP.ok (t := t3n cs) (p := fun v => v = true) (by
    unfold t3n
    refine .cn (fun _ => rfl) (fun h24 => ?_)
    have hc : cs.length ≤ 24 := by have := of_decide_eq_false h24; omega
    obtain ⟨g4, hg⟩ := great4 hc
    refine .t g4 (.cn (fun _ => rfl) (fun h4 => ?_))
    obtain ⟨h8, h2, ht⟩ := hg h4
    obtain ⟨g6, p1, p2⟩ := piles6 hc h2 (by omega)
    refine .t g6 (.cn (fun he => ?_) (fun he => ?_))
    · have : w6q_0 cs = [] := p1 (by simpa using he)
      rw [this]
      exact .t rfl rfl
    · have he : w6q_1 cs = 0 := by simpa using he
      obtain ⟨l, q1, q2, q3, q4⟩ := p2 he
      rw [q2]
      refine .cn (fun _ => rfl) (fun h10 => ?_)
      have hl : l.length ≤ 10 := by
        have := of_decide_eq_false h10
        rw [List.length_map] at this
        omega
      have hgood := mkP_good (keysA cs cs.length)
      have hnd : (l.map (·.1)).Nodup := (q1.map _).nodup_iff.2 hgood.nd
      have hmem : ∀ k n, (k, n) ∈ l ↔ (n = (keysA cs cs.length).count k ∧ k ∈ keysA cs cs.length) := fun k n => by rw [q1.mem_iff]; exact hgood.mem k n
      have hkeys : ∀ m, m ≤ cs.length → ∀ k, k ∈ keysA cs m → ∃ j, j < m ∧ ∃ b, b ∈ bsA cs j ∧ kyA b = k := by
        intro m
        induction m with
        | zero => intro _ k hk; cases hk
        | succ m ih =>
          intro hm k hk
          simp only [keysA, List.mem_append, List.mem_map] at hk
          rcases hk with hk | ⟨b, hb, rfl⟩
          · obtain ⟨j, h1, h2⟩ := ih (by omega) k hk
            exact ⟨j, by omega, h2⟩
          · exact ⟨m, by omega, b, hb, rfl⟩
      have hkin : ∀ m, m ≤ cs.length → ∀ j, j < m → ∀ b, b ∈ bsA cs j → kyA b ∈ keysA cs m := by
        intro m
        induction m with
        | zero => intro _ j hj; omega
        | succ m ih =>
          intro hm j hj b hb
          simp only [keysA, List.mem_append, List.mem_map]
          rcases Nat.lt_succ_iff_lt_or_eq.1 hj with h' | rfl
          · exact .inl (ih (by omega) j h' b hb)
          · exact .inr ⟨b, hb, rfl⟩
      have hin : ∀ j, j < cs.length → ∀ b, b ∈ bsA cs j → kyA b ∈ l.map (·.1) := fun j hj b hb =>
        List.mem_map.2 ⟨(kyA b, (keysA cs cs.length).count (kyA b)), (hmem _ _).2 ⟨rfl, hkin cs.length (Nat.le_refl _) j hj b hb⟩, rfl⟩
      have hat : ∀ i, i < l.length → gP l i ∈ l := fun i hi => by rw [gP_at hi]; exact List.getElem_mem hi
      have hw : ∀ i, i < l.length → 1 ≤ (gP l i).1.w ∧ (gP l i).1.w ≤ 100 := fun i hi => by
        obtain ⟨_, hk⟩ := (hmem (gP l i).1 (gP l i).2).1 (hat i hi)
        obtain ⟨j, hj, b, hb, e⟩ := hkeys cs.length (Nat.le_refl _) _ hk
        rw [← e]
        exact q4 j hj b hb
      obtain ⟨r1, r2⟩ := pieces3 (cs := cs) hl
      refine .t r1 (.t ?_ ?_)
      · rw [List.length_map]
        exact make_ok hl
      · obtain ⟨y, hy, hq⟩ := courses3 hc hl hnd hw h2 hin q4
        have et : (((l.map rowP).length : Nat) : Int).toNat = l.length := by rw [List.length_map]; omega
        have ez : List.replicate l.length [AV.i IntKind.i64 0] = ones (fun _ => 0) l.length := ones_zero _
        rw [et, ez, r2]
        cases y with
        | x0 t a b c =>
          have hi : i3nb_0 cs false (l.map rowP) l.length 0 0 (psA l l.length) 0 0 (ones (fun _ => 0) l.length) = true := by unfold i3nb_0; rw [hy]
          refine .t hi ?_
          show v3nb_0_t2' cs false (l.map rowP) l.length 0 0 (psA l l.length) 0 0 (ones (fun _ => 0) l.length) = true
          unfold v3nb_0_t2'
          rw [hy]
          exact hq
        | x1 a b c =>
          simp only at hq
          subst hq
          have hi : i3nb_0 cs false (l.map rowP) l.length 0 0 (psA l l.length) 0 0 (ones (fun _ => 0) l.length) = false := by unfold i3nb_0; rw [hy]
          have hi1 : i3nb_1 cs false (l.map rowP) l.length 0 0 (psA l l.length) 0 0 (ones (fun _ => 0) l.length) = true := by unfold i3nb_1; rw [hy]
          have hv : v3nb_1_m26 cs false (l.map rowP) l.length 0 0 (psA l l.length) 0 0 (ones (fun _ => 0) l.length) = ones (cntP cs l cs.length) l.length := by unfold v3nb_1_m26; rw [hy]
          obtain ⟨z1, z2⟩ := piles3 (l := l) (m0 := v3nb_1_m22_0 cs false (l.map rowP) l.length 0 0 (psA l l.length) 0 0 (ones (fun _ => 0) l.length)) (m3 := psA l l.length) (F := cntP cs l cs.length) hl fun j hj => by
            have := (hmem (gP l j).1 (gP l j).2).1 (hat j hj)
            unfold cntP
            rw [this.1]
          refine .f hi (.t hi1 ?_)
          rw [hv]
          exact .f z1 (.t z2 rfl))
  exact h
end Go.Proofs.Ytfbfohkgajeopac
