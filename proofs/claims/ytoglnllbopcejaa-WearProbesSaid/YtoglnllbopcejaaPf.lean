/-
  The evaluator, its soundness, and the functions that several laws reach: what they compute, for all arguments; no conditions.
-/
import Derived.Test.YtoglnllbopcejaaPe
import Derived.Test.YtoglnllbopcejaaPc
import Derived.Test.YtoglnllbopcejaaPd
set_option linter.unusedVariables false
set_option maxRecDepth 100000
set_option maxHeartbeats 0
set_option linter.unusedVariables false
namespace Go.Proofs.Ytoglnllbopcejaa
open Go Go.Ev

noncomputable def t13 (os hs : List (List AV)) (st tl th : Int) (ms : List (List AV)) (u v : Int) : Tr ((Int) × (Int) × (Int)) :=
  .cn (g15 os hs st tl th ms) (.cn (w15_0 os hs st tl th ms != 0) (.lf (0, 0, w15_0 os hs st tl th ms)) (.cn (g21 os hs u v) (.cn (!w21_0 os hs u v) (.lf (0, 0, 7)) (.cn (g33 os hs st tl th ms u v) (.lf (w33_0 os hs st tl th ms u v, w33_1 os hs st tl th ms u v, 0)) (.nn))) (.nn))) (.nn)
-- SPEC 13
end Go.Proofs.Ytoglnllbopcejaa

set_option maxRecDepth 100000
set_option linter.unusedVariables false
namespace Go.Proofs.Ytoglnllbopcejaa
open Go Go.Ev
end Go.Proofs.Ytoglnllbopcejaa

set_option maxRecDepth 100000
set_option maxHeartbeats 0
set_option linter.unusedVariables false
namespace Go.Proofs.Ytoglnllbopcejaa
open Go Go.Ev

structure S17a where
  t49 : Int
  ms : List (List AV)
inductive T17a where
  | x0 (t49 : Int) (m26 : List (List AV))
-- SPEC 17
end Go.Proofs.Ytoglnllbopcejaa

set_option maxRecDepth 100000
set_option maxHeartbeats 0
set_option linter.unusedVariables false
namespace Go.Proofs.Ytoglnllbopcejaa
open Go Go.Ev

noncomputable def c31 : Code := match Try.f31.body with | some c => c | _ => .skip
theorem lok31 : LOK Try.prog S0 (ro 31) (fun _ _ => none) 0 false c31 [] :=
  lok_lo (fun _ _ _ _ _ _ _ h _ => by cases h) c31 [] false (locate_nil _) (by kernel_rfl)
noncomputable def t31 (os hs : List (List AV)) (st tl th : Int) (ms : List (List AV)) : Tr ((List (List AV)) × (List (List AV)) × (Int) × (Int) × (Int) × (List (List AV))) :=
  .cn ((os.length * 16).ble 140737488355328) (.cn ((hs.length * 32).ble 140737488355328) (.cn ((ms.length * 32).ble 140737488355328) (.cn ((0 + os.length).ble os.length) (.cn ((0 + hs.length).ble hs.length) (.cn ((0 + ms.length).ble ms.length) (.lf (bif os.length.beq os.length then os else List.take os.length (List.drop 0 os), bif hs.length.beq hs.length then hs else List.take hs.length (List.drop 0 hs), st, tl, th, bif ms.length.beq ms.length then ms else List.take ms.length (List.drop 0 ms))) (.nn)) (.nn)) (.nn)) (.nn)) (.nn)) (.nn)
noncomputable def g31 (os hs : List (List AV)) (st tl th : Int) (ms : List (List AV)) : Bool := (t31 os hs st tl th ms).g
noncomputable def w31_0 (os hs : List (List AV)) (st tl th : Int) (ms : List (List AV)) : List (List AV) := (t31 os hs st tl th ms).val.1
noncomputable def w31_1 (os hs : List (List AV)) (st tl th : Int) (ms : List (List AV)) : List (List AV) := (t31 os hs st tl th ms).val.2.1
noncomputable def w31_2 (os hs : List (List AV)) (st tl th : Int) (ms : List (List AV)) : Int := (t31 os hs st tl th ms).val.2.2.1
noncomputable def w31_3 (os hs : List (List AV)) (st tl th : Int) (ms : List (List AV)) : Int := (t31 os hs st tl th ms).val.2.2.2.1
noncomputable def w31_4 (os hs : List (List AV)) (st tl th : Int) (ms : List (List AV)) : Int := (t31 os hs st tl th ms).val.2.2.2.2.1
noncomputable def w31_5 (os hs : List (List AV)) (st tl th : Int) (ms : List (List AV)) : List (List AV) := (t31 os hs st tl th ms).val.2.2.2.2.2
theorem eq31 (os hs : List (List AV)) (st tl th : Int) (ms : List (List AV)) : evF Try.prog S0 (ro 31) (fun _ _ => none) Try.f31 [.agg [.rs 32 os, .rs 55 hs, .i .i64 st, .i .i64 tl, .i .i64 th, .rs 67 ms]] = (t31 os hs st tl th ms).opt (fun (x : (List (List AV)) × (List (List AV)) × (Int) × (Int) × (Int) × (List (List AV))) => (.agg [.rs 32 x.1, .rs 55 x.2.1, .i .i64 x.2.2.1, .i .i64 x.2.2.2.1, .i .i64 x.2.2.2.2.1, .rs 67 x.2.2.2.2.2] : AV)) := by kernel_rfl
theorem con31 (os hs : List (List AV)) (st tl th : Int) (ms : List (List AV)) (h : g31 os hs st tl th ms = true) : Con Try.prog 31 [.agg [.rs 32 os, .rs 55 hs, .i .i64 st, .i .i64 tl, .i .i64 th, .rs 67 ms]] [] (.agg [.rs 32 (w31_0 os hs st tl th ms), .rs 55 (w31_1 os hs st tl th ms), .i .i64 (w31_2 os hs st tl th ms), .i .i64 (w31_3 os hs st tl th ms), .i .i64 (w31_4 os hs st tl th ms), .rs 67 (w31_5 os hs st tl th ms)]) [] :=
  con_of S0_ok mixed Try.func31 (c := c31) rfl (names 31 _ Try.func31) lok31 ((eq31 os hs st tl th ms).trans (Tr.sound _ _ h))
-- SPEC 31
end Go.Proofs.Ytoglnllbopcejaa

set_option maxRecDepth 100000
set_option linter.unusedVariables false
namespace Go.Proofs.Ytoglnllbopcejaa
open Go Go.Ev
theorem con31c (os hs : List (List AV)) (st tl th : Int) (ms : List (List AV)) (h1 : Nat.ble (os.length * 16) 140737488355328 = true) (h2 : Nat.ble (hs.length * 32) 140737488355328 = true) (h3 : Nat.ble (ms.length * 32) 140737488355328 = true) :
    Con Try.prog 31 [.agg [.rs 32 os, .rs 55 hs, .i .i64 st, .i .i64 tl, .i .i64 th, .rs 67 ms]] [] (.agg [.rs 32 os, .rs 55 hs, .i .i64 st, .i .i64 tl, .i .i64 th, .rs 67 ms]) [] := by
  have b : ∀ l : List (List AV), (0 + l.length).ble l.length = true := fun l => by simp
  have q : ∀ l : List (List AV), l.length.beq l.length = true := fun l => by simp
  have hg : g31 os hs st tl th ms = true := by
    unfold g31 t31
    rw [h1, h2, h3, b, b, b]; rfl
  have hv : (t31 os hs st tl th ms).val = (os, hs, st, tl, th, ms) := by
    unfold t31
    rw [h1, h2, h3, b, b, b, q, q, q]; rfl
  have := con31 os hs st tl th ms hg
  unfold w31_0 w31_1 w31_2 w31_3 w31_4 w31_5 at this
  rw [hv] at this
  exact this
noncomputable def e31c (args : List AV) (rows : List Blk) : Option (Bool × AV × List Blk) := match args, rows with
  | [.agg [.rs a os, .rs b hs, .i .i64 st, .i .i64 tl, .i .i64 th, .rs c ms]], [] => cond (Nat.beq a 32 && (Nat.beq b 55 && Nat.beq c 67)) (some (Nat.ble (os.length * 16) 140737488355328 && (Nat.ble (hs.length * 32) 140737488355328 && Nat.ble (ms.length * 32) 140737488355328), .agg [.rs 32 os, .rs 55 hs, .i .i64 st, .i .i64 tl, .i .i64 th, .rs 67 ms], [])) none
  | _, _ => none
theorem e31c_ok (args : List AV) (rows : List Blk) (pre : Bool) (v : AV) (rows' : List Blk) (h : e31c args rows = some (pre, v, rows')) (hp : pre = true) : Con Try.prog 31 args rows v rows' := by
  unfold e31c at h
  split at h <;> first | (cases h; done) | skip
  obtain ⟨h1, h2⟩ := cond_some2 h
  clear h
  simp only [Bool.and_eq_true] at h1
  obtain ⟨q1, q2, q3⟩ := h1
  obtain rfl := Nat.eq_of_beq_eq_true q1
  obtain rfl := Nat.eq_of_beq_eq_true q2
  obtain rfl := Nat.eq_of_beq_eq_true q3
  cases h2
  simp only [Bool.and_eq_true] at hp
  exact con31c _ _ _ _ _ _ hp.1 hp.2.1 hp.2.2
structure Lr where
  g28 : List (List AV) → List (List AV) → Int → Int → Int → List (List AV) → Bool
  w28 : List (List AV) → List (List AV) → Int → Int → Int → List (List AV) → Int
  g29 : List (List AV) → List (List AV) → Int → Int → Bool
  w29 : List (List AV) → List (List AV) → Int → Int → Bool
noncomputable def U0 : Lr := ⟨g28, w28_0, g29, w29_0⟩
noncomputable def e28p (V : Lr) (args : List AV) (rows : List Blk) : Option (Bool × AV × List Blk) := match args, rows with
  | [.agg [.rs a os, .rs b hs, .i .i64 st, .i .i64 tl, .i .i64 th, .rs c ms]], [] => cond (Nat.beq a 32 && (Nat.beq b 55 && Nat.beq c 67)) (some (V.g28 os hs st tl th ms, .i .i64 (V.w28 os hs st tl th ms), [])) none
  | _, _ => none
theorem e28p_ok {V : Lr} (hV : V = U0) (args : List AV) (rows : List Blk) (pre : Bool) (v : AV) (rows' : List Blk) (h : e28p V args rows = some (pre, v, rows')) (hp : pre = true) : Con Try.prog 28 args rows v rows' := by
  subst hV
  unfold e28p at h
  split at h <;> first | (cases h; done) | skip
  obtain ⟨h1, h2⟩ := cond_some2 h
  clear h
  simp only [Bool.and_eq_true] at h1
  obtain ⟨q1, q2, q3⟩ := h1
  obtain rfl := Nat.eq_of_beq_eq_true q1
  obtain rfl := Nat.eq_of_beq_eq_true q2
  obtain rfl := Nat.eq_of_beq_eq_true q3
  cases h2
  exact con28 _ _ _ _ _ _ hp
noncomputable def e29p (V : Lr) (args : List AV) (rows : List Blk) : Option (Bool × AV × List Blk) := match args, rows with
  | [.agg [.rs a os, .rs b hs], .agg [.i .i64 u, .i .i64 v]], [] => cond (Nat.beq a 32 && Nat.beq b 55) (some (V.g29 os hs u v, .b (V.w29 os hs u v), [])) none
  | _, _ => none
theorem e29p_ok {V : Lr} (hV : V = U0) (args : List AV) (rows : List Blk) (pre : Bool) (v : AV) (rows' : List Blk) (h : e29p V args rows = some (pre, v, rows')) (hp : pre = true) : Con Try.prog 29 args rows v rows' := by
  subst hV
  unfold e29p at h
  split at h <;> first | (cases h; done) | skip
  obtain ⟨h1, h2⟩ := cond_some2 h
  clear h
  simp only [Bool.and_eq_true] at h1
  obtain ⟨q1, q2⟩ := h1
  obtain rfl := Nat.eq_of_beq_eq_true q1
  obtain rfl := Nat.eq_of_beq_eq_true q2
  cases h2
  exact con29 _ _ _ _ hp
noncomputable def SRf (V : Lr) : Ev.Spec := insS 32 e32 (insS 31 e31c (insS 30 e30 (insS 29 (e29p V) (insS 28 (e28p V) S0))))
theorem SRf_ok {V : Lr} (hV : V = U0) : SpecOK Try.prog (SRf V) := insS_ok e32_ok (insS_ok e31c_ok (insS_ok e30_ok (insS_ok (e29p_ok hV) (insS_ok (e28p_ok hV) S0_ok))))
end Go.Proofs.Ytoglnllbopcejaa

set_option maxRecDepth 100000
set_option maxHeartbeats 0
set_option linter.unusedVariables false
namespace Go.Proofs.Ytoglnllbopcejaa
open Go Go.Ev

noncomputable def c10 : Code := match Try.f10.body with | some c => c | _ => .skip
noncomputable def lp10a : Code := loopAt c10 [true, true, true, true, true, true, true, true, false, true, false]
noncomputable def s10a (u v t9 : Int) (t12 : List (List AV)) (t13 : Bool) (t14 : Int) (os hs : List (List AV)) (st tl th : Int) (ms m2_0 m2_1 : List (List AV)) (m2_2 m2_3 m2_4 : Int) (m2_5 : List (List AV)) (m21_0 m21_1 : Int) : St :=
  { t := [(4, .p 0 0 0), (5, .rp [.int .i64, .int .i64] [.i .i64 u, .i .i64 v] 0), (8, .p 2 0 0), (9, .i .i64 t9), (11, .p 21 0 0), (12, .gv 22 67 t12), (13, .b t13), (14, .i .i64 t14)], m := [(22, .fr 67), (0, .row 30 [[.rs 32 os, .rs 55 hs, .i .i64 st, .i .i64 tl, .i .i64 th, .rs 67 ms]]), (1, .dead), (2, .row 30 [[.rs 32 m2_0, .rs 55 m2_1, .i .i64 m2_2, .i .i64 m2_3, .i .i64 m2_4, .rs 67 m2_5]]), (3, .dead), (4, .dead), (5, .dead), (6, .dead), (7, .dead), (8, .dead), (9, .dead), (10, .dead), (11, .dead), (12, .dead), (13, .dead), (14, .dead), (15, .dead), (16, .dead), (17, .dead), (18, .dead), (19, .dead), (20, .dead), (21, .row 27 [[.i .i64 m21_0, .i .i64 m21_1]])], nx := 23, nt := 118 }
structure S10a where
  t12 : List (List AV)
  t13 : Bool
  t14 : Int
inductive T10a where
  | x0 (t12 : List (List AV)) (t13 : Bool) (t14 : Int)
noncomputable def stp10a (u v t9 : Int) (os hs : List (List AV)) (st tl th : Int) (ms m2_0 m2_1 : List (List AV)) (m2_2 m2_3 m2_4 : Int) (m2_5 : List (List AV)) (m21_0 m21_1 : Int) (t12 : List (List AV)) (t13 : Bool) (t14 : Int) : Lp S10a T10a :=
  cond (decide (t14 < (↑ms.length : Int))) (cond (inb t14 ms.length) (cond (fI (ms.getD t14.toNat []) 0 == u && fI (ms.getD t14.toNat []) 1 == v) (cond ((t12.length + [[AV.i IntKind.i64 (fI (ms.getD t14.toNat []) 0), AV.i IntKind.i64 (fI (ms.getD t14.toNat []) 1), AV.i IntKind.i64 (bmax (fI (ms.getD t14.toNat []) 2) m21_0), AV.i IntKind.i64 (bmin (fI (ms.getD t14.toNat []) 3) m21_1)]].length).ble 9223372036854775807 && true) (cond (((t12.length + [[AV.i IntKind.i64 (fI (ms.getD t14.toNat []) 0), AV.i IntKind.i64 (fI (ms.getD t14.toNat []) 1), AV.i IntKind.i64 (bmax (fI (ms.getD t14.toNat []) 2) m21_0), AV.i IntKind.i64 (bmin (fI (ms.getD t14.toNat []) 3) m21_1)]].length) * 32).ble 140737488355328) (cond (t12.isEmpty && false) (.bad) (.go ⟨t12 ++ [[AV.i IntKind.i64 (fI (ms.getD t14.toNat []) 0), AV.i IntKind.i64 (fI (ms.getD t14.toNat []) 1), AV.i IntKind.i64 (bmax (fI (ms.getD t14.toNat []) 2) m21_0), AV.i IntKind.i64 (bmin (fI (ms.getD t14.toNat []) 3) m21_1)]], true, IntKind.i64.wrap (t14 + 1)⟩)) (.bad)) (.bad)) (cond (!t13) (cond (g32 (fI (ms.getD t14.toNat []) 0) (fI (ms.getD t14.toNat []) 1) u v) (cond (w32_0 (fI (ms.getD t14.toNat []) 0) (fI (ms.getD t14.toNat []) 1) u v) (cond ((t12.length + [[AV.i IntKind.i64 u, AV.i IntKind.i64 v, AV.i IntKind.i64 m21_0, AV.i IntKind.i64 m21_1]].length).ble 9223372036854775807 && true) (cond (((t12.length + [[AV.i IntKind.i64 u, AV.i IntKind.i64 v, AV.i IntKind.i64 m21_0, AV.i IntKind.i64 m21_1]].length) * 32).ble 140737488355328) (cond (t12.isEmpty && false) (.bad) (cond (((t12 ++ [[AV.i IntKind.i64 u, AV.i IntKind.i64 v, AV.i IntKind.i64 m21_0, AV.i IntKind.i64 m21_1]]).length + [[AV.i IntKind.i64 (fI (ms.getD t14.toNat []) 0), AV.i IntKind.i64 (fI (ms.getD t14.toNat []) 1), AV.i IntKind.i64 (fI (ms.getD t14.toNat []) 2), AV.i IntKind.i64 (fI (ms.getD t14.toNat []) 3)]].length).ble 9223372036854775807 && true) (cond ((((t12 ++ [[AV.i IntKind.i64 u, AV.i IntKind.i64 v, AV.i IntKind.i64 m21_0, AV.i IntKind.i64 m21_1]]).length + [[AV.i IntKind.i64 (fI (ms.getD t14.toNat []) 0), AV.i IntKind.i64 (fI (ms.getD t14.toNat []) 1), AV.i IntKind.i64 (fI (ms.getD t14.toNat []) 2), AV.i IntKind.i64 (fI (ms.getD t14.toNat []) 3)]].length) * 32).ble 140737488355328) (cond ((t12 ++ [[AV.i IntKind.i64 u, AV.i IntKind.i64 v, AV.i IntKind.i64 m21_0, AV.i IntKind.i64 m21_1]]).isEmpty && false) (.bad) (.go ⟨t12 ++ [[AV.i IntKind.i64 u, AV.i IntKind.i64 v, AV.i IntKind.i64 m21_0, AV.i IntKind.i64 m21_1]] ++ [[AV.i IntKind.i64 (fI (ms.getD t14.toNat []) 0), AV.i IntKind.i64 (fI (ms.getD t14.toNat []) 1), AV.i IntKind.i64 (fI (ms.getD t14.toNat []) 2), AV.i IntKind.i64 (fI (ms.getD t14.toNat []) 3)]], true, IntKind.i64.wrap (t14 + 1)⟩)) (.bad)) (.bad))) (.bad)) (.bad)) (cond ((t12.length + [[AV.i IntKind.i64 (fI (ms.getD t14.toNat []) 0), AV.i IntKind.i64 (fI (ms.getD t14.toNat []) 1), AV.i IntKind.i64 (fI (ms.getD t14.toNat []) 2), AV.i IntKind.i64 (fI (ms.getD t14.toNat []) 3)]].length).ble 9223372036854775807 && true) (cond (((t12.length + [[AV.i IntKind.i64 (fI (ms.getD t14.toNat []) 0), AV.i IntKind.i64 (fI (ms.getD t14.toNat []) 1), AV.i IntKind.i64 (fI (ms.getD t14.toNat []) 2), AV.i IntKind.i64 (fI (ms.getD t14.toNat []) 3)]].length) * 32).ble 140737488355328) (cond (t12.isEmpty && false) (.bad) (.go ⟨t12 ++ [[AV.i IntKind.i64 (fI (ms.getD t14.toNat []) 0), AV.i IntKind.i64 (fI (ms.getD t14.toNat []) 1), AV.i IntKind.i64 (fI (ms.getD t14.toNat []) 2), AV.i IntKind.i64 (fI (ms.getD t14.toNat []) 3)]], t13, IntKind.i64.wrap (t14 + 1)⟩)) (.bad)) (.bad))) (.bad)) (cond ((t12.length + [[AV.i IntKind.i64 (fI (ms.getD t14.toNat []) 0), AV.i IntKind.i64 (fI (ms.getD t14.toNat []) 1), AV.i IntKind.i64 (fI (ms.getD t14.toNat []) 2), AV.i IntKind.i64 (fI (ms.getD t14.toNat []) 3)]].length).ble 9223372036854775807 && true) (cond (((t12.length + [[AV.i IntKind.i64 (fI (ms.getD t14.toNat []) 0), AV.i IntKind.i64 (fI (ms.getD t14.toNat []) 1), AV.i IntKind.i64 (fI (ms.getD t14.toNat []) 2), AV.i IntKind.i64 (fI (ms.getD t14.toNat []) 3)]].length) * 32).ble 140737488355328) (cond (t12.isEmpty && false) (.bad) (.go ⟨t12 ++ [[AV.i IntKind.i64 (fI (ms.getD t14.toNat []) 0), AV.i IntKind.i64 (fI (ms.getD t14.toNat []) 1), AV.i IntKind.i64 (fI (ms.getD t14.toNat []) 2), AV.i IntKind.i64 (fI (ms.getD t14.toNat []) 3)]], t13, IntKind.i64.wrap (t14 + 1)⟩)) (.bad)) (.bad)))) (.bad)) (.out (.x0 t12 t13 t14))
noncomputable def o10a_0 (u v t9 : Int) (os hs : List (List AV)) (st tl th : Int) (ms m2_0 m2_1 : List (List AV)) (m2_2 m2_3 m2_4 : Int) (m2_5 : List (List AV)) (m21_0 m21_1 : Int) (t12 : List (List AV)) (t13 : Bool) (t14 : Int) : St :=
  { t := [(4, .p 0 0 0), (5, .rp [.int .i64, .int .i64] [.i .i64 u, .i .i64 v] 0), (8, .p 2 0 0), (9, .i .i64 t9), (11, .p 21 0 0), (12, .gv 22 67 t12), (13, .b t13), (14, .i .i64 t14)], m := [(22, .fr 67), (0, .row 30 [[.rs 32 os, .rs 55 hs, .i .i64 st, .i .i64 tl, .i .i64 th, .rs 67 ms]]), (1, .dead), (2, .row 30 [[.rs 32 m2_0, .rs 55 m2_1, .i .i64 m2_2, .i .i64 m2_3, .i .i64 m2_4, .rs 67 m2_5]]), (3, .dead), (4, .dead), (5, .dead), (6, .dead), (7, .dead), (8, .dead), (9, .dead), (10, .dead), (11, .dead), (12, .dead), (13, .dead), (14, .dead), (15, .dead), (16, .dead), (17, .dead), (18, .dead), (19, .dead), (20, .dead), (21, .row 27 [[.i .i64 m21_0, .i .i64 m21_1]])], nx := 23, nt := 118 }
noncomputable def ou10a (u v t9 : Int) (os hs : List (List AV)) (st tl th : Int) (ms m2_0 m2_1 : List (List AV)) (m2_2 m2_3 m2_4 : Int) (m2_5 : List (List AV)) (m21_0 m21_1 : Int) : T10a → Ex × St
  | .x0 t12 t13 t14 => (.ext 1, o10a_0 u v t9 os hs st tl th ms m2_0 m2_1 m2_2 m2_3 m2_4 m2_5 m21_0 m21_1 t12 t13 t14)
noncomputable def r10a (u v t9 : Int) (os hs : List (List AV)) (st tl th : Int) (ms m2_0 m2_1 : List (List AV)) (m2_2 m2_3 m2_4 : Int) (m2_5 : List (List AV)) (m21_0 m21_1 : Int) (t12 : List (List AV)) (t13 : Bool) (t14 : Int) : Option T10a := run (fun x => stp10a u v t9 os hs st tl th ms m2_0 m2_1 m2_2 m2_3 m2_4 m2_5 m21_0 m21_1 x.t12 x.t13 x.t14) (⟨t12, t13, t14⟩ : S10a)
noncomputable def i10a_0 (u v t9 : Int) (os hs : List (List AV)) (st tl th : Int) (ms m2_0 m2_1 : List (List AV)) (m2_2 m2_3 m2_4 : Int) (m2_5 : List (List AV)) (m21_0 m21_1 : Int) (t12 : List (List AV)) (t13 : Bool) (t14 : Int) : Bool := match r10a u v t9 os hs st tl th ms m2_0 m2_1 m2_2 m2_3 m2_4 m2_5 m21_0 m21_1 t12 t13 t14 with
  | some (.x0 _ _ _) => true
  | _ => false
noncomputable def v10a_0_t12 (u v t9 : Int) (os hs : List (List AV)) (st tl th : Int) (ms m2_0 m2_1 : List (List AV)) (m2_2 m2_3 m2_4 : Int) (m2_5 : List (List AV)) (m21_0 m21_1 : Int) (t12 : List (List AV)) (t13 : Bool) (t14 : Int) : List (List AV) := match r10a u v t9 os hs st tl th ms m2_0 m2_1 m2_2 m2_3 m2_4 m2_5 m21_0 m21_1 t12 t13 t14 with
  | some (.x0 t12 _ _) => t12
  | _ => default
noncomputable def v10a_0_t13 (u v t9 : Int) (os hs : List (List AV)) (st tl th : Int) (ms m2_0 m2_1 : List (List AV)) (m2_2 m2_3 m2_4 : Int) (m2_5 : List (List AV)) (m21_0 m21_1 : Int) (t12 : List (List AV)) (t13 : Bool) (t14 : Int) : Bool := match r10a u v t9 os hs st tl th ms m2_0 m2_1 m2_2 m2_3 m2_4 m2_5 m21_0 m21_1 t12 t13 t14 with
  | some (.x0 _ t13 _) => t13
  | _ => default
noncomputable def v10a_0_t14 (u v t9 : Int) (os hs : List (List AV)) (st tl th : Int) (ms m2_0 m2_1 : List (List AV)) (m2_2 m2_3 m2_4 : Int) (m2_5 : List (List AV)) (m21_0 m21_1 : Int) (t12 : List (List AV)) (t13 : Bool) (t14 : Int) : Int := match r10a u v t9 os hs st tl th ms m2_0 m2_1 m2_2 m2_3 m2_4 m2_5 m21_0 m21_1 t12 t13 t14 with
  | some (.x0 _ _ t14) => t14
  | _ => default
noncomputable def q10a (u v t9 : Int) (t12 : List (List AV)) (t13 : Bool) (t14 : Int) (os hs : List (List AV)) (st tl th : Int) (ms m2_0 m2_1 : List (List AV)) (m2_2 m2_3 m2_4 : Int) (m2_5 : List (List AV)) (m21_0 m21_1 : Int) : List (Bool × Ex × St) := [(i10a_0 u v t9 os hs st tl th ms m2_0 m2_1 m2_2 m2_3 m2_4 m2_5 m21_0 m21_1 t12 t13 t14, .ext 1, o10a_0 u v t9 os hs st tl th ms m2_0 m2_1 m2_2 m2_3 m2_4 m2_5 m21_0 m21_1 (v10a_0_t12 u v t9 os hs st tl th ms m2_0 m2_1 m2_2 m2_3 m2_4 m2_5 m21_0 m21_1 t12 t13 t14) (v10a_0_t13 u v t9 os hs st tl th ms m2_0 m2_1 m2_2 m2_3 m2_4 m2_5 m21_0 m21_1 t12 t13 t14) (v10a_0_t14 u v t9 os hs st tl th ms m2_0 m2_1 m2_2 m2_3 m2_4 m2_5 m21_0 m21_1 t12 t13 t14))]
noncomputable def l10a (st : St) : Option (List (Bool × Ex × St)) := qget [.p 0 0 0, .rp [.int .i64, .int .i64] [.i .i64, .i .i64] 0, .p 2 0 0, .i .i64, .p 21 0 0, .gv 22 67, .b, .i .i64] [(22, .fr 67), (0, .row 30 [.l [.rs 32, .rs 55, .i .i64, .i .i64, .i .i64, .rs 67]]), (1, .dead), (2, .row 30 [.l [.rs 32, .rs 55, .i .i64, .i .i64, .i .i64, .rs 67]]), (3, .dead), (4, .dead), (5, .dead), (6, .dead), (7, .dead), (8, .dead), (9, .dead), (10, .dead), (11, .dead), (12, .dead), (13, .dead), (14, .dead), (15, .dead), (16, .dead), (17, .dead), (18, .dead), (19, .dead), (20, .dead), (21, .row 27 [.l [.i .i64, .i .i64]])] 23 118 (normW Try.prog [(4, none), (5, none), (8, none), (9, none), (11, none), (12, some 67), (13, none), (14, none)] 22 st) fun ls => q10a (lI ls 0) (lI ls 1) (lI ls 2) (lLL ls 3) (lB ls 4) (lI ls 5) (lLL ls 6) (lLL ls 7) (lI ls 8) (lI ls 9) (lI ls 10) (lLL ls 11) (lLL ls 12) (lLL ls 13) (lI ls 14) (lI ls 15) (lI ls 16) (lLL ls 17) (lI ls 18) (lI ls 19)
noncomputable def s10a' (u v t9 : Int) (t12 : List (List AV)) (t13 : Bool) (t14 : Int) (os hs : List (List AV)) (st tl th : Int) (ms m2_0 m2_1 : List (List AV)) (m2_2 m2_3 m2_4 : Int) (m2_5 : List (List AV)) (m36_0 m36_1 : Int) : St :=
  { t := [(4, .p 0 0 0), (5, .rp [.int .i64, .int .i64] [.i .i64 u, .i .i64 v] 0), (8, .p 2 0 0), (9, .i .i64 t9), (11, .p 36 0 0), (12, .gv 37 67 t12), (13, .b t13), (14, .i .i64 t14)], m := [(37, .fr 67), (0, .row 30 [[.rs 32 os, .rs 55 hs, .i .i64 st, .i .i64 tl, .i .i64 th, .rs 67 ms]]), (1, .dead), (2, .row 30 [[.rs 32 m2_0, .rs 55 m2_1, .i .i64 m2_2, .i .i64 m2_3, .i .i64 m2_4, .rs 67 m2_5]]), (3, .dead), (4, .dead), (5, .dead), (6, .dead), (7, .dead), (8, .dead), (9, .dead), (10, .dead), (11, .dead), (12, .dead), (13, .dead), (14, .dead), (15, .dead), (16, .dead), (17, .dead), (18, .dead), (19, .dead), (20, .dead), (21, .dead), (22, .dead), (23, .dead), (24, .dead), (25, .dead), (26, .dead), (27, .dead), (28, .dead), (29, .dead), (30, .dead), (31, .dead), (32, .dead), (33, .dead), (34, .dead), (35, .dead), (36, .row 27 [[.i .i64 m36_0, .i .i64 m36_1]])], nx := 38, nt := 118 }
structure S10a' where
  t12 : List (List AV)
  t13 : Bool
  t14 : Int
inductive T10a' where
  | x0 (t12 : List (List AV)) (t13 : Bool) (t14 : Int)
noncomputable def stp10a' (u v t9 : Int) (os hs : List (List AV)) (st tl th : Int) (ms m2_0 m2_1 : List (List AV)) (m2_2 m2_3 m2_4 : Int) (m2_5 : List (List AV)) (m36_0 m36_1 : Int) (t12 : List (List AV)) (t13 : Bool) (t14 : Int) : Lp S10a' T10a' :=
  cond (decide (t14 < (↑ms.length : Int))) (cond (inb t14 ms.length) (cond (fI (ms.getD t14.toNat []) 0 == u && fI (ms.getD t14.toNat []) 1 == v) (cond ((t12.length + [[AV.i IntKind.i64 (fI (ms.getD t14.toNat []) 0), AV.i IntKind.i64 (fI (ms.getD t14.toNat []) 1), AV.i IntKind.i64 (bmax (fI (ms.getD t14.toNat []) 2) m36_0), AV.i IntKind.i64 (bmin (fI (ms.getD t14.toNat []) 3) m36_1)]].length).ble 9223372036854775807 && true) (cond (((t12.length + [[AV.i IntKind.i64 (fI (ms.getD t14.toNat []) 0), AV.i IntKind.i64 (fI (ms.getD t14.toNat []) 1), AV.i IntKind.i64 (bmax (fI (ms.getD t14.toNat []) 2) m36_0), AV.i IntKind.i64 (bmin (fI (ms.getD t14.toNat []) 3) m36_1)]].length) * 32).ble 140737488355328) (cond (t12.isEmpty && false) (.bad) (.go ⟨t12 ++ [[AV.i IntKind.i64 (fI (ms.getD t14.toNat []) 0), AV.i IntKind.i64 (fI (ms.getD t14.toNat []) 1), AV.i IntKind.i64 (bmax (fI (ms.getD t14.toNat []) 2) m36_0), AV.i IntKind.i64 (bmin (fI (ms.getD t14.toNat []) 3) m36_1)]], true, IntKind.i64.wrap (t14 + 1)⟩)) (.bad)) (.bad)) (cond (!t13) (cond (g32 (fI (ms.getD t14.toNat []) 0) (fI (ms.getD t14.toNat []) 1) u v) (cond (w32_0 (fI (ms.getD t14.toNat []) 0) (fI (ms.getD t14.toNat []) 1) u v) (cond ((t12.length + [[AV.i IntKind.i64 u, AV.i IntKind.i64 v, AV.i IntKind.i64 m36_0, AV.i IntKind.i64 m36_1]].length).ble 9223372036854775807 && true) (cond (((t12.length + [[AV.i IntKind.i64 u, AV.i IntKind.i64 v, AV.i IntKind.i64 m36_0, AV.i IntKind.i64 m36_1]].length) * 32).ble 140737488355328) (cond (t12.isEmpty && false) (.bad) (cond (((t12 ++ [[AV.i IntKind.i64 u, AV.i IntKind.i64 v, AV.i IntKind.i64 m36_0, AV.i IntKind.i64 m36_1]]).length + [[AV.i IntKind.i64 (fI (ms.getD t14.toNat []) 0), AV.i IntKind.i64 (fI (ms.getD t14.toNat []) 1), AV.i IntKind.i64 (fI (ms.getD t14.toNat []) 2), AV.i IntKind.i64 (fI (ms.getD t14.toNat []) 3)]].length).ble 9223372036854775807 && true) (cond ((((t12 ++ [[AV.i IntKind.i64 u, AV.i IntKind.i64 v, AV.i IntKind.i64 m36_0, AV.i IntKind.i64 m36_1]]).length + [[AV.i IntKind.i64 (fI (ms.getD t14.toNat []) 0), AV.i IntKind.i64 (fI (ms.getD t14.toNat []) 1), AV.i IntKind.i64 (fI (ms.getD t14.toNat []) 2), AV.i IntKind.i64 (fI (ms.getD t14.toNat []) 3)]].length) * 32).ble 140737488355328) (cond ((t12 ++ [[AV.i IntKind.i64 u, AV.i IntKind.i64 v, AV.i IntKind.i64 m36_0, AV.i IntKind.i64 m36_1]]).isEmpty && false) (.bad) (.go ⟨t12 ++ [[AV.i IntKind.i64 u, AV.i IntKind.i64 v, AV.i IntKind.i64 m36_0, AV.i IntKind.i64 m36_1]] ++ [[AV.i IntKind.i64 (fI (ms.getD t14.toNat []) 0), AV.i IntKind.i64 (fI (ms.getD t14.toNat []) 1), AV.i IntKind.i64 (fI (ms.getD t14.toNat []) 2), AV.i IntKind.i64 (fI (ms.getD t14.toNat []) 3)]], true, IntKind.i64.wrap (t14 + 1)⟩)) (.bad)) (.bad))) (.bad)) (.bad)) (cond ((t12.length + [[AV.i IntKind.i64 (fI (ms.getD t14.toNat []) 0), AV.i IntKind.i64 (fI (ms.getD t14.toNat []) 1), AV.i IntKind.i64 (fI (ms.getD t14.toNat []) 2), AV.i IntKind.i64 (fI (ms.getD t14.toNat []) 3)]].length).ble 9223372036854775807 && true) (cond (((t12.length + [[AV.i IntKind.i64 (fI (ms.getD t14.toNat []) 0), AV.i IntKind.i64 (fI (ms.getD t14.toNat []) 1), AV.i IntKind.i64 (fI (ms.getD t14.toNat []) 2), AV.i IntKind.i64 (fI (ms.getD t14.toNat []) 3)]].length) * 32).ble 140737488355328) (cond (t12.isEmpty && false) (.bad) (.go ⟨t12 ++ [[AV.i IntKind.i64 (fI (ms.getD t14.toNat []) 0), AV.i IntKind.i64 (fI (ms.getD t14.toNat []) 1), AV.i IntKind.i64 (fI (ms.getD t14.toNat []) 2), AV.i IntKind.i64 (fI (ms.getD t14.toNat []) 3)]], t13, IntKind.i64.wrap (t14 + 1)⟩)) (.bad)) (.bad))) (.bad)) (cond ((t12.length + [[AV.i IntKind.i64 (fI (ms.getD t14.toNat []) 0), AV.i IntKind.i64 (fI (ms.getD t14.toNat []) 1), AV.i IntKind.i64 (fI (ms.getD t14.toNat []) 2), AV.i IntKind.i64 (fI (ms.getD t14.toNat []) 3)]].length).ble 9223372036854775807 && true) (cond (((t12.length + [[AV.i IntKind.i64 (fI (ms.getD t14.toNat []) 0), AV.i IntKind.i64 (fI (ms.getD t14.toNat []) 1), AV.i IntKind.i64 (fI (ms.getD t14.toNat []) 2), AV.i IntKind.i64 (fI (ms.getD t14.toNat []) 3)]].length) * 32).ble 140737488355328) (cond (t12.isEmpty && false) (.bad) (.go ⟨t12 ++ [[AV.i IntKind.i64 (fI (ms.getD t14.toNat []) 0), AV.i IntKind.i64 (fI (ms.getD t14.toNat []) 1), AV.i IntKind.i64 (fI (ms.getD t14.toNat []) 2), AV.i IntKind.i64 (fI (ms.getD t14.toNat []) 3)]], t13, IntKind.i64.wrap (t14 + 1)⟩)) (.bad)) (.bad)))) (.bad)) (.out (.x0 t12 t13 t14))
noncomputable def o10a'_0 (u v t9 : Int) (os hs : List (List AV)) (st tl th : Int) (ms m2_0 m2_1 : List (List AV)) (m2_2 m2_3 m2_4 : Int) (m2_5 : List (List AV)) (m36_0 m36_1 : Int) (t12 : List (List AV)) (t13 : Bool) (t14 : Int) : St :=
  { t := [(4, .p 0 0 0), (5, .rp [.int .i64, .int .i64] [.i .i64 u, .i .i64 v] 0), (8, .p 2 0 0), (9, .i .i64 t9), (11, .p 36 0 0), (12, .gv 37 67 t12), (13, .b t13), (14, .i .i64 t14)], m := [(37, .fr 67), (0, .row 30 [[.rs 32 os, .rs 55 hs, .i .i64 st, .i .i64 tl, .i .i64 th, .rs 67 ms]]), (1, .dead), (2, .row 30 [[.rs 32 m2_0, .rs 55 m2_1, .i .i64 m2_2, .i .i64 m2_3, .i .i64 m2_4, .rs 67 m2_5]]), (3, .dead), (4, .dead), (5, .dead), (6, .dead), (7, .dead), (8, .dead), (9, .dead), (10, .dead), (11, .dead), (12, .dead), (13, .dead), (14, .dead), (15, .dead), (16, .dead), (17, .dead), (18, .dead), (19, .dead), (20, .dead), (21, .dead), (22, .dead), (23, .dead), (24, .dead), (25, .dead), (26, .dead), (27, .dead), (28, .dead), (29, .dead), (30, .dead), (31, .dead), (32, .dead), (33, .dead), (34, .dead), (35, .dead), (36, .row 27 [[.i .i64 m36_0, .i .i64 m36_1]])], nx := 38, nt := 118 }
noncomputable def ou10a' (u v t9 : Int) (os hs : List (List AV)) (st tl th : Int) (ms m2_0 m2_1 : List (List AV)) (m2_2 m2_3 m2_4 : Int) (m2_5 : List (List AV)) (m36_0 m36_1 : Int) : T10a' → Ex × St
  | .x0 t12 t13 t14 => (.ext 1, o10a'_0 u v t9 os hs st tl th ms m2_0 m2_1 m2_2 m2_3 m2_4 m2_5 m36_0 m36_1 t12 t13 t14)
noncomputable def r10a' (u v t9 : Int) (os hs : List (List AV)) (st tl th : Int) (ms m2_0 m2_1 : List (List AV)) (m2_2 m2_3 m2_4 : Int) (m2_5 : List (List AV)) (m36_0 m36_1 : Int) (t12 : List (List AV)) (t13 : Bool) (t14 : Int) : Option T10a' := run (fun x => stp10a' u v t9 os hs st tl th ms m2_0 m2_1 m2_2 m2_3 m2_4 m2_5 m36_0 m36_1 x.t12 x.t13 x.t14) (⟨t12, t13, t14⟩ : S10a')
noncomputable def i10a'_0 (u v t9 : Int) (os hs : List (List AV)) (st tl th : Int) (ms m2_0 m2_1 : List (List AV)) (m2_2 m2_3 m2_4 : Int) (m2_5 : List (List AV)) (m36_0 m36_1 : Int) (t12 : List (List AV)) (t13 : Bool) (t14 : Int) : Bool := match r10a' u v t9 os hs st tl th ms m2_0 m2_1 m2_2 m2_3 m2_4 m2_5 m36_0 m36_1 t12 t13 t14 with
  | some (.x0 _ _ _) => true
  | _ => false
noncomputable def v10a'_0_t12 (u v t9 : Int) (os hs : List (List AV)) (st tl th : Int) (ms m2_0 m2_1 : List (List AV)) (m2_2 m2_3 m2_4 : Int) (m2_5 : List (List AV)) (m36_0 m36_1 : Int) (t12 : List (List AV)) (t13 : Bool) (t14 : Int) : List (List AV) := match r10a' u v t9 os hs st tl th ms m2_0 m2_1 m2_2 m2_3 m2_4 m2_5 m36_0 m36_1 t12 t13 t14 with
  | some (.x0 t12 _ _) => t12
  | _ => default
noncomputable def v10a'_0_t13 (u v t9 : Int) (os hs : List (List AV)) (st tl th : Int) (ms m2_0 m2_1 : List (List AV)) (m2_2 m2_3 m2_4 : Int) (m2_5 : List (List AV)) (m36_0 m36_1 : Int) (t12 : List (List AV)) (t13 : Bool) (t14 : Int) : Bool := match r10a' u v t9 os hs st tl th ms m2_0 m2_1 m2_2 m2_3 m2_4 m2_5 m36_0 m36_1 t12 t13 t14 with
  | some (.x0 _ t13 _) => t13
  | _ => default
noncomputable def v10a'_0_t14 (u v t9 : Int) (os hs : List (List AV)) (st tl th : Int) (ms m2_0 m2_1 : List (List AV)) (m2_2 m2_3 m2_4 : Int) (m2_5 : List (List AV)) (m36_0 m36_1 : Int) (t12 : List (List AV)) (t13 : Bool) (t14 : Int) : Int := match r10a' u v t9 os hs st tl th ms m2_0 m2_1 m2_2 m2_3 m2_4 m2_5 m36_0 m36_1 t12 t13 t14 with
  | some (.x0 _ _ t14) => t14
  | _ => default
noncomputable def q10a' (u v t9 : Int) (t12 : List (List AV)) (t13 : Bool) (t14 : Int) (os hs : List (List AV)) (st tl th : Int) (ms m2_0 m2_1 : List (List AV)) (m2_2 m2_3 m2_4 : Int) (m2_5 : List (List AV)) (m36_0 m36_1 : Int) : List (Bool × Ex × St) := [(i10a'_0 u v t9 os hs st tl th ms m2_0 m2_1 m2_2 m2_3 m2_4 m2_5 m36_0 m36_1 t12 t13 t14, .ext 1, o10a'_0 u v t9 os hs st tl th ms m2_0 m2_1 m2_2 m2_3 m2_4 m2_5 m36_0 m36_1 (v10a'_0_t12 u v t9 os hs st tl th ms m2_0 m2_1 m2_2 m2_3 m2_4 m2_5 m36_0 m36_1 t12 t13 t14) (v10a'_0_t13 u v t9 os hs st tl th ms m2_0 m2_1 m2_2 m2_3 m2_4 m2_5 m36_0 m36_1 t12 t13 t14) (v10a'_0_t14 u v t9 os hs st tl th ms m2_0 m2_1 m2_2 m2_3 m2_4 m2_5 m36_0 m36_1 t12 t13 t14))]
noncomputable def l10a' (st : St) : Option (List (Bool × Ex × St)) := qget [.p 0 0 0, .rp [.int .i64, .int .i64] [.i .i64, .i .i64] 0, .p 2 0 0, .i .i64, .p 36 0 0, .gv 37 67, .b, .i .i64] [(37, .fr 67), (0, .row 30 [.l [.rs 32, .rs 55, .i .i64, .i .i64, .i .i64, .rs 67]]), (1, .dead), (2, .row 30 [.l [.rs 32, .rs 55, .i .i64, .i .i64, .i .i64, .rs 67]]), (3, .dead), (4, .dead), (5, .dead), (6, .dead), (7, .dead), (8, .dead), (9, .dead), (10, .dead), (11, .dead), (12, .dead), (13, .dead), (14, .dead), (15, .dead), (16, .dead), (17, .dead), (18, .dead), (19, .dead), (20, .dead), (21, .dead), (22, .dead), (23, .dead), (24, .dead), (25, .dead), (26, .dead), (27, .dead), (28, .dead), (29, .dead), (30, .dead), (31, .dead), (32, .dead), (33, .dead), (34, .dead), (35, .dead), (36, .row 27 [.l [.i .i64, .i .i64]])] 38 118 (normW Try.prog [(4, none), (5, none), (8, none), (9, none), (11, none), (12, some 67), (13, none), (14, none)] 37 st) fun ls => q10a' (lI ls 0) (lI ls 1) (lI ls 2) (lLL ls 3) (lB ls 4) (lI ls 5) (lLL ls 6) (lLL ls 7) (lI ls 8) (lI ls 9) (lI ls 10) (lLL ls 11) (lLL ls 12) (lLL ls 13) (lI ls 14) (lI ls 15) (lI ls 16) (lLL ls 17) (lI ls 18) (lI ls 19)
noncomputable def L10 : LSpec := fun p st => match p with
  | [false, true, false, true, true, true, true, true, true, true, true] => orL (l10a st) (l10a' st)
  | _ => none
theorem is10a_0 (u v t9 : Int) (os hs : List (List AV)) (st tl th : Int) (ms m2_0 m2_1 : List (List AV)) (m2_2 m2_3 m2_4 : Int) (m2_5 : List (List AV)) (m21_0 m21_1 : Int) (t12 : List (List AV)) (t13 : Bool) (t14 : Int) (h : i10a_0 u v t9 os hs st tl th ms m2_0 m2_1 m2_2 m2_3 m2_4 m2_5 m21_0 m21_1 t12 t13 t14 = true) : r10a u v t9 os hs st tl th ms m2_0 m2_1 m2_2 m2_3 m2_4 m2_5 m21_0 m21_1 t12 t13 t14 = some (.x0 (v10a_0_t12 u v t9 os hs st tl th ms m2_0 m2_1 m2_2 m2_3 m2_4 m2_5 m21_0 m21_1 t12 t13 t14) (v10a_0_t13 u v t9 os hs st tl th ms m2_0 m2_1 m2_2 m2_3 m2_4 m2_5 m21_0 m21_1 t12 t13 t14) (v10a_0_t14 u v t9 os hs st tl th ms m2_0 m2_1 m2_2 m2_3 m2_4 m2_5 m21_0 m21_1 t12 t13 t14)) := by
  unfold i10a_0 at h
  unfold v10a_0_t12 v10a_0_t13 v10a_0_t14
  generalize r10a u v t9 os hs st tl th ms m2_0 m2_1 m2_2 m2_3 m2_4 m2_5 m21_0 m21_1 t12 t13 t14 = r at h ⊢
  rcases r with _ | y
  · cases h
  · cases y <;> first | rfl | cases h
theorem round10a {V : Lr} (u v t9 : Int) (t12 : List (List AV)) (t13 : Bool) (t14 : Int) (os hs : List (List AV)) (st tl th : Int) (ms m2_0 m2_1 : List (List AV)) (m2_2 m2_3 m2_4 : Int) (m2_5 : List (List AV)) (m21_0 m21_1 : Int) : round Try.prog (SRf V) (ro 10) L10 lp10a [false, true, false, true, true, true, true, true, true, true, true] [(4, none), (5, none), (8, none), (9, none), (11, none), (12, some 67), (13, none), (14, none)] 22 (s10a u v t9 t12 t13 t14 os hs st tl th ms m2_0 m2_1 m2_2 m2_3 m2_4 m2_5 m21_0 m21_1) =
    cond (decide (t14 < (↑ms.length : Int))) (cond (inb t14 ms.length) (cond (fI (ms.getD t14.toNat []) 0 == u && fI (ms.getD t14.toNat []) 1 == v) (cond ((t12.length + [[AV.i IntKind.i64 (fI (ms.getD t14.toNat []) 0), AV.i IntKind.i64 (fI (ms.getD t14.toNat []) 1), AV.i IntKind.i64 (bmax (fI (ms.getD t14.toNat []) 2) m21_0), AV.i IntKind.i64 (bmin (fI (ms.getD t14.toNat []) 3) m21_1)]].length).ble 9223372036854775807 && true) (cond (((t12.length + [[AV.i IntKind.i64 (fI (ms.getD t14.toNat []) 0), AV.i IntKind.i64 (fI (ms.getD t14.toNat []) 1), AV.i IntKind.i64 (bmax (fI (ms.getD t14.toNat []) 2) m21_0), AV.i IntKind.i64 (bmin (fI (ms.getD t14.toNat []) 3) m21_1)]].length) * 32).ble 140737488355328) (cond (t12.isEmpty && false) (none) (some (.nrm, s10a u v t9 (t12 ++ [[AV.i IntKind.i64 (fI (ms.getD t14.toNat []) 0), AV.i IntKind.i64 (fI (ms.getD t14.toNat []) 1), AV.i IntKind.i64 (bmax (fI (ms.getD t14.toNat []) 2) m21_0), AV.i IntKind.i64 (bmin (fI (ms.getD t14.toNat []) 3) m21_1)]]) true (IntKind.i64.wrap (t14 + 1)) os hs st tl th ms m2_0 m2_1 m2_2 m2_3 m2_4 m2_5 m21_0 m21_1))) (none)) (none)) (cond (!t13) (cond (g32 (fI (ms.getD t14.toNat []) 0) (fI (ms.getD t14.toNat []) 1) u v) (cond (w32_0 (fI (ms.getD t14.toNat []) 0) (fI (ms.getD t14.toNat []) 1) u v) (cond ((t12.length + [[AV.i IntKind.i64 u, AV.i IntKind.i64 v, AV.i IntKind.i64 m21_0, AV.i IntKind.i64 m21_1]].length).ble 9223372036854775807 && true) (cond (((t12.length + [[AV.i IntKind.i64 u, AV.i IntKind.i64 v, AV.i IntKind.i64 m21_0, AV.i IntKind.i64 m21_1]].length) * 32).ble 140737488355328) (cond (t12.isEmpty && false) (none) (cond (((t12 ++ [[AV.i IntKind.i64 u, AV.i IntKind.i64 v, AV.i IntKind.i64 m21_0, AV.i IntKind.i64 m21_1]]).length + [[AV.i IntKind.i64 (fI (ms.getD t14.toNat []) 0), AV.i IntKind.i64 (fI (ms.getD t14.toNat []) 1), AV.i IntKind.i64 (fI (ms.getD t14.toNat []) 2), AV.i IntKind.i64 (fI (ms.getD t14.toNat []) 3)]].length).ble 9223372036854775807 && true) (cond ((((t12 ++ [[AV.i IntKind.i64 u, AV.i IntKind.i64 v, AV.i IntKind.i64 m21_0, AV.i IntKind.i64 m21_1]]).length + [[AV.i IntKind.i64 (fI (ms.getD t14.toNat []) 0), AV.i IntKind.i64 (fI (ms.getD t14.toNat []) 1), AV.i IntKind.i64 (fI (ms.getD t14.toNat []) 2), AV.i IntKind.i64 (fI (ms.getD t14.toNat []) 3)]].length) * 32).ble 140737488355328) (cond ((t12 ++ [[AV.i IntKind.i64 u, AV.i IntKind.i64 v, AV.i IntKind.i64 m21_0, AV.i IntKind.i64 m21_1]]).isEmpty && false) (none) (some (.nrm, s10a u v t9 (t12 ++ [[AV.i IntKind.i64 u, AV.i IntKind.i64 v, AV.i IntKind.i64 m21_0, AV.i IntKind.i64 m21_1]] ++ [[AV.i IntKind.i64 (fI (ms.getD t14.toNat []) 0), AV.i IntKind.i64 (fI (ms.getD t14.toNat []) 1), AV.i IntKind.i64 (fI (ms.getD t14.toNat []) 2), AV.i IntKind.i64 (fI (ms.getD t14.toNat []) 3)]]) true (IntKind.i64.wrap (t14 + 1)) os hs st tl th ms m2_0 m2_1 m2_2 m2_3 m2_4 m2_5 m21_0 m21_1))) (none)) (none))) (none)) (none)) (cond ((t12.length + [[AV.i IntKind.i64 (fI (ms.getD t14.toNat []) 0), AV.i IntKind.i64 (fI (ms.getD t14.toNat []) 1), AV.i IntKind.i64 (fI (ms.getD t14.toNat []) 2), AV.i IntKind.i64 (fI (ms.getD t14.toNat []) 3)]].length).ble 9223372036854775807 && true) (cond (((t12.length + [[AV.i IntKind.i64 (fI (ms.getD t14.toNat []) 0), AV.i IntKind.i64 (fI (ms.getD t14.toNat []) 1), AV.i IntKind.i64 (fI (ms.getD t14.toNat []) 2), AV.i IntKind.i64 (fI (ms.getD t14.toNat []) 3)]].length) * 32).ble 140737488355328) (cond (t12.isEmpty && false) (none) (some (.nrm, s10a u v t9 (t12 ++ [[AV.i IntKind.i64 (fI (ms.getD t14.toNat []) 0), AV.i IntKind.i64 (fI (ms.getD t14.toNat []) 1), AV.i IntKind.i64 (fI (ms.getD t14.toNat []) 2), AV.i IntKind.i64 (fI (ms.getD t14.toNat []) 3)]]) t13 (IntKind.i64.wrap (t14 + 1)) os hs st tl th ms m2_0 m2_1 m2_2 m2_3 m2_4 m2_5 m21_0 m21_1))) (none)) (none))) (none)) (cond ((t12.length + [[AV.i IntKind.i64 (fI (ms.getD t14.toNat []) 0), AV.i IntKind.i64 (fI (ms.getD t14.toNat []) 1), AV.i IntKind.i64 (fI (ms.getD t14.toNat []) 2), AV.i IntKind.i64 (fI (ms.getD t14.toNat []) 3)]].length).ble 9223372036854775807 && true) (cond (((t12.length + [[AV.i IntKind.i64 (fI (ms.getD t14.toNat []) 0), AV.i IntKind.i64 (fI (ms.getD t14.toNat []) 1), AV.i IntKind.i64 (fI (ms.getD t14.toNat []) 2), AV.i IntKind.i64 (fI (ms.getD t14.toNat []) 3)]].length) * 32).ble 140737488355328) (cond (t12.isEmpty && false) (none) (some (.nrm, s10a u v t9 (t12 ++ [[AV.i IntKind.i64 (fI (ms.getD t14.toNat []) 0), AV.i IntKind.i64 (fI (ms.getD t14.toNat []) 1), AV.i IntKind.i64 (fI (ms.getD t14.toNat []) 2), AV.i IntKind.i64 (fI (ms.getD t14.toNat []) 3)]]) t13 (IntKind.i64.wrap (t14 + 1)) os hs st tl th ms m2_0 m2_1 m2_2 m2_3 m2_4 m2_5 m21_0 m21_1))) (none)) (none)))) (none)) (some (.ext 1, o10a_0 u v t9 os hs st tl th ms m2_0 m2_1 m2_2 m2_3 m2_4 m2_5 m21_0 m21_1 t12 t13 t14)) := by kernel_rfl
theorem rnd10a {V : Lr} (u v t9 : Int) (os hs : List (List AV)) (st tl th : Int) (ms m2_0 m2_1 : List (List AV)) (m2_2 m2_3 m2_4 : Int) (m2_5 : List (List AV)) (m21_0 m21_1 : Int) (x : S10a) : round Try.prog (SRf V) (ro 10) L10 lp10a [false, true, false, true, true, true, true, true, true, true, true] [(4, none), (5, none), (8, none), (9, none), (11, none), (12, some 67), (13, none), (14, none)] 22 ((fun x => s10a u v t9 x.t12 x.t13 x.t14 os hs st tl th ms m2_0 m2_1 m2_2 m2_3 m2_4 m2_5 m21_0 m21_1) x) = toR (fun x => s10a u v t9 x.t12 x.t13 x.t14 os hs st tl th ms m2_0 m2_1 m2_2 m2_3 m2_4 m2_5 m21_0 m21_1) (ou10a u v t9 os hs st tl th ms m2_0 m2_1 m2_2 m2_3 m2_4 m2_5 m21_0 m21_1) (stp10a u v t9 os hs st tl th ms m2_0 m2_1 m2_2 m2_3 m2_4 m2_5 m21_0 m21_1 x.t12 x.t13 x.t14) := by
  refine (round10a _ _ _ _ _ _ _ _ _ _ _ _ _ _ _ _ _ _ _ _ ).trans ?_
  unfold stp10a
  simp only [toR_cond]
  rfl
theorem lokb10a {V : Lr} (u v t9 : Int) (t12 : List (List AV)) (t13 : Bool) (t14 : Int) (os hs : List (List AV)) (st tl th : Int) (ms m2_0 m2_1 : List (List AV)) (m2_2 m2_3 m2_4 : Int) (m2_5 : List (List AV)) (m21_0 m21_1 : Int) {e : Ex} {s : St} (hch : Chosen (q10a u v t9 t12 t13 t14 os hs st tl th ms m2_0 m2_1 m2_2 m2_3 m2_4 m2_5 m21_0 m21_1) e s) : LB Try.prog (SRf V) (ro 10) L10 lp10a [false, true, false, true, true, true, true, true, true, true, true] [(4, none), (5, none), (8, none), (9, none), (11, none), (12, some 67), (13, none), (14, none)] 22 (s10a u v t9 t12 t13 t14 os hs st tl th ms m2_0 m2_1 m2_2 m2_3 m2_4 m2_5 m21_0 m21_1) e s := by
  unfold q10a at hch
  have main := fun y h => LB_run (x := (⟨t12, t13, t14⟩ : S10a)) (y := y) (nb := 22) (fun y => by cases y <;> simp [ou10a]) (rnd10a (V := V) u v t9 os hs st tl th ms m2_0 m2_1 m2_2 m2_3 m2_4 m2_5 m21_0 m21_1) h
  obtain ⟨x, hx, hg, rfl, rfl⟩ := chosen_any hch
  simp only [List.mem_cons, List.not_mem_nil, or_false] at hx
  subst hx
  exact main _ (is10a_0 u v t9 os hs st tl th ms m2_0 m2_1 m2_2 m2_3 m2_4 m2_5 m21_0 m21_1 t12 t13 t14 hg)
theorem lok10a {V : Lr} {st : St} {outs : List (Bool × Ex × St)} {e : Ex} {s : St} (hl : l10a st = some outs) (hch : Chosen outs e s) :
    ∃ keep nb, 0 ≤ nb ∧ LB Try.prog (SRf V) (ro 10) L10 lp10a [false, true, false, true, true, true, true, true, true, true, true] keep nb st e s := by
  unfold l10a at hl
  obtain ⟨ls, hno, rfl⟩ := qget_some hl
  have hno := normW_norm hno
  refine ⟨_, _, ?_, .enterQ hno (s2 := s10a (lI ls 0) (lI ls 1) (lI ls 2) (lLL ls 3) (lB ls 4) (lI ls 5) (lLL ls 6) (lLL ls 7) (lI ls 8) (lI ls 9) (lI ls 10) (lLL ls 11) (lLL ls 12) (lLL ls 13) (lI ls 14) (lI ls 15) (lI ls 16) (lLL ls 17) (lI ls 18) (lI ls 19)) (by kernel_rfl) (lokb10a _ _ _ _ _ _ _ _ _ _ _ _ _ _ _ _ _ _ _ _ hch)⟩
  decide
theorem is10a'_0 (u v t9 : Int) (os hs : List (List AV)) (st tl th : Int) (ms m2_0 m2_1 : List (List AV)) (m2_2 m2_3 m2_4 : Int) (m2_5 : List (List AV)) (m36_0 m36_1 : Int) (t12 : List (List AV)) (t13 : Bool) (t14 : Int) (h : i10a'_0 u v t9 os hs st tl th ms m2_0 m2_1 m2_2 m2_3 m2_4 m2_5 m36_0 m36_1 t12 t13 t14 = true) : r10a' u v t9 os hs st tl th ms m2_0 m2_1 m2_2 m2_3 m2_4 m2_5 m36_0 m36_1 t12 t13 t14 = some (.x0 (v10a'_0_t12 u v t9 os hs st tl th ms m2_0 m2_1 m2_2 m2_3 m2_4 m2_5 m36_0 m36_1 t12 t13 t14) (v10a'_0_t13 u v t9 os hs st tl th ms m2_0 m2_1 m2_2 m2_3 m2_4 m2_5 m36_0 m36_1 t12 t13 t14) (v10a'_0_t14 u v t9 os hs st tl th ms m2_0 m2_1 m2_2 m2_3 m2_4 m2_5 m36_0 m36_1 t12 t13 t14)) := by
  unfold i10a'_0 at h
  unfold v10a'_0_t12 v10a'_0_t13 v10a'_0_t14
  generalize r10a' u v t9 os hs st tl th ms m2_0 m2_1 m2_2 m2_3 m2_4 m2_5 m36_0 m36_1 t12 t13 t14 = r at h ⊢
  rcases r with _ | y
  · cases h
  · cases y <;> first | rfl | cases h
theorem round10a' {V : Lr} (u v t9 : Int) (t12 : List (List AV)) (t13 : Bool) (t14 : Int) (os hs : List (List AV)) (st tl th : Int) (ms m2_0 m2_1 : List (List AV)) (m2_2 m2_3 m2_4 : Int) (m2_5 : List (List AV)) (m36_0 m36_1 : Int) : round Try.prog (SRf V) (ro 10) L10 lp10a [false, true, false, true, true, true, true, true, true, true, true] [(4, none), (5, none), (8, none), (9, none), (11, none), (12, some 67), (13, none), (14, none)] 37 (s10a' u v t9 t12 t13 t14 os hs st tl th ms m2_0 m2_1 m2_2 m2_3 m2_4 m2_5 m36_0 m36_1) =
    cond (decide (t14 < (↑ms.length : Int))) (cond (inb t14 ms.length) (cond (fI (ms.getD t14.toNat []) 0 == u && fI (ms.getD t14.toNat []) 1 == v) (cond ((t12.length + [[AV.i IntKind.i64 (fI (ms.getD t14.toNat []) 0), AV.i IntKind.i64 (fI (ms.getD t14.toNat []) 1), AV.i IntKind.i64 (bmax (fI (ms.getD t14.toNat []) 2) m36_0), AV.i IntKind.i64 (bmin (fI (ms.getD t14.toNat []) 3) m36_1)]].length).ble 9223372036854775807 && true) (cond (((t12.length + [[AV.i IntKind.i64 (fI (ms.getD t14.toNat []) 0), AV.i IntKind.i64 (fI (ms.getD t14.toNat []) 1), AV.i IntKind.i64 (bmax (fI (ms.getD t14.toNat []) 2) m36_0), AV.i IntKind.i64 (bmin (fI (ms.getD t14.toNat []) 3) m36_1)]].length) * 32).ble 140737488355328) (cond (t12.isEmpty && false) (none) (some (.nrm, s10a' u v t9 (t12 ++ [[AV.i IntKind.i64 (fI (ms.getD t14.toNat []) 0), AV.i IntKind.i64 (fI (ms.getD t14.toNat []) 1), AV.i IntKind.i64 (bmax (fI (ms.getD t14.toNat []) 2) m36_0), AV.i IntKind.i64 (bmin (fI (ms.getD t14.toNat []) 3) m36_1)]]) true (IntKind.i64.wrap (t14 + 1)) os hs st tl th ms m2_0 m2_1 m2_2 m2_3 m2_4 m2_5 m36_0 m36_1))) (none)) (none)) (cond (!t13) (cond (g32 (fI (ms.getD t14.toNat []) 0) (fI (ms.getD t14.toNat []) 1) u v) (cond (w32_0 (fI (ms.getD t14.toNat []) 0) (fI (ms.getD t14.toNat []) 1) u v) (cond ((t12.length + [[AV.i IntKind.i64 u, AV.i IntKind.i64 v, AV.i IntKind.i64 m36_0, AV.i IntKind.i64 m36_1]].length).ble 9223372036854775807 && true) (cond (((t12.length + [[AV.i IntKind.i64 u, AV.i IntKind.i64 v, AV.i IntKind.i64 m36_0, AV.i IntKind.i64 m36_1]].length) * 32).ble 140737488355328) (cond (t12.isEmpty && false) (none) (cond (((t12 ++ [[AV.i IntKind.i64 u, AV.i IntKind.i64 v, AV.i IntKind.i64 m36_0, AV.i IntKind.i64 m36_1]]).length + [[AV.i IntKind.i64 (fI (ms.getD t14.toNat []) 0), AV.i IntKind.i64 (fI (ms.getD t14.toNat []) 1), AV.i IntKind.i64 (fI (ms.getD t14.toNat []) 2), AV.i IntKind.i64 (fI (ms.getD t14.toNat []) 3)]].length).ble 9223372036854775807 && true) (cond ((((t12 ++ [[AV.i IntKind.i64 u, AV.i IntKind.i64 v, AV.i IntKind.i64 m36_0, AV.i IntKind.i64 m36_1]]).length + [[AV.i IntKind.i64 (fI (ms.getD t14.toNat []) 0), AV.i IntKind.i64 (fI (ms.getD t14.toNat []) 1), AV.i IntKind.i64 (fI (ms.getD t14.toNat []) 2), AV.i IntKind.i64 (fI (ms.getD t14.toNat []) 3)]].length) * 32).ble 140737488355328) (cond ((t12 ++ [[AV.i IntKind.i64 u, AV.i IntKind.i64 v, AV.i IntKind.i64 m36_0, AV.i IntKind.i64 m36_1]]).isEmpty && false) (none) (some (.nrm, s10a' u v t9 (t12 ++ [[AV.i IntKind.i64 u, AV.i IntKind.i64 v, AV.i IntKind.i64 m36_0, AV.i IntKind.i64 m36_1]] ++ [[AV.i IntKind.i64 (fI (ms.getD t14.toNat []) 0), AV.i IntKind.i64 (fI (ms.getD t14.toNat []) 1), AV.i IntKind.i64 (fI (ms.getD t14.toNat []) 2), AV.i IntKind.i64 (fI (ms.getD t14.toNat []) 3)]]) true (IntKind.i64.wrap (t14 + 1)) os hs st tl th ms m2_0 m2_1 m2_2 m2_3 m2_4 m2_5 m36_0 m36_1))) (none)) (none))) (none)) (none)) (cond ((t12.length + [[AV.i IntKind.i64 (fI (ms.getD t14.toNat []) 0), AV.i IntKind.i64 (fI (ms.getD t14.toNat []) 1), AV.i IntKind.i64 (fI (ms.getD t14.toNat []) 2), AV.i IntKind.i64 (fI (ms.getD t14.toNat []) 3)]].length).ble 9223372036854775807 && true) (cond (((t12.length + [[AV.i IntKind.i64 (fI (ms.getD t14.toNat []) 0), AV.i IntKind.i64 (fI (ms.getD t14.toNat []) 1), AV.i IntKind.i64 (fI (ms.getD t14.toNat []) 2), AV.i IntKind.i64 (fI (ms.getD t14.toNat []) 3)]].length) * 32).ble 140737488355328) (cond (t12.isEmpty && false) (none) (some (.nrm, s10a' u v t9 (t12 ++ [[AV.i IntKind.i64 (fI (ms.getD t14.toNat []) 0), AV.i IntKind.i64 (fI (ms.getD t14.toNat []) 1), AV.i IntKind.i64 (fI (ms.getD t14.toNat []) 2), AV.i IntKind.i64 (fI (ms.getD t14.toNat []) 3)]]) t13 (IntKind.i64.wrap (t14 + 1)) os hs st tl th ms m2_0 m2_1 m2_2 m2_3 m2_4 m2_5 m36_0 m36_1))) (none)) (none))) (none)) (cond ((t12.length + [[AV.i IntKind.i64 (fI (ms.getD t14.toNat []) 0), AV.i IntKind.i64 (fI (ms.getD t14.toNat []) 1), AV.i IntKind.i64 (fI (ms.getD t14.toNat []) 2), AV.i IntKind.i64 (fI (ms.getD t14.toNat []) 3)]].length).ble 9223372036854775807 && true) (cond (((t12.length + [[AV.i IntKind.i64 (fI (ms.getD t14.toNat []) 0), AV.i IntKind.i64 (fI (ms.getD t14.toNat []) 1), AV.i IntKind.i64 (fI (ms.getD t14.toNat []) 2), AV.i IntKind.i64 (fI (ms.getD t14.toNat []) 3)]].length) * 32).ble 140737488355328) (cond (t12.isEmpty && false) (none) (some (.nrm, s10a' u v t9 (t12 ++ [[AV.i IntKind.i64 (fI (ms.getD t14.toNat []) 0), AV.i IntKind.i64 (fI (ms.getD t14.toNat []) 1), AV.i IntKind.i64 (fI (ms.getD t14.toNat []) 2), AV.i IntKind.i64 (fI (ms.getD t14.toNat []) 3)]]) t13 (IntKind.i64.wrap (t14 + 1)) os hs st tl th ms m2_0 m2_1 m2_2 m2_3 m2_4 m2_5 m36_0 m36_1))) (none)) (none)))) (none)) (some (.ext 1, o10a'_0 u v t9 os hs st tl th ms m2_0 m2_1 m2_2 m2_3 m2_4 m2_5 m36_0 m36_1 t12 t13 t14)) := by kernel_rfl
theorem rnd10a' {V : Lr} (u v t9 : Int) (os hs : List (List AV)) (st tl th : Int) (ms m2_0 m2_1 : List (List AV)) (m2_2 m2_3 m2_4 : Int) (m2_5 : List (List AV)) (m36_0 m36_1 : Int) (x : S10a') : round Try.prog (SRf V) (ro 10) L10 lp10a [false, true, false, true, true, true, true, true, true, true, true] [(4, none), (5, none), (8, none), (9, none), (11, none), (12, some 67), (13, none), (14, none)] 37 ((fun x => s10a' u v t9 x.t12 x.t13 x.t14 os hs st tl th ms m2_0 m2_1 m2_2 m2_3 m2_4 m2_5 m36_0 m36_1) x) = toR (fun x => s10a' u v t9 x.t12 x.t13 x.t14 os hs st tl th ms m2_0 m2_1 m2_2 m2_3 m2_4 m2_5 m36_0 m36_1) (ou10a' u v t9 os hs st tl th ms m2_0 m2_1 m2_2 m2_3 m2_4 m2_5 m36_0 m36_1) (stp10a' u v t9 os hs st tl th ms m2_0 m2_1 m2_2 m2_3 m2_4 m2_5 m36_0 m36_1 x.t12 x.t13 x.t14) := by
  refine (round10a' _ _ _ _ _ _ _ _ _ _ _ _ _ _ _ _ _ _ _ _ ).trans ?_
  unfold stp10a'
  simp only [toR_cond]
  rfl
theorem lokb10a' {V : Lr} (u v t9 : Int) (t12 : List (List AV)) (t13 : Bool) (t14 : Int) (os hs : List (List AV)) (st tl th : Int) (ms m2_0 m2_1 : List (List AV)) (m2_2 m2_3 m2_4 : Int) (m2_5 : List (List AV)) (m36_0 m36_1 : Int) {e : Ex} {s : St} (hch : Chosen (q10a' u v t9 t12 t13 t14 os hs st tl th ms m2_0 m2_1 m2_2 m2_3 m2_4 m2_5 m36_0 m36_1) e s) : LB Try.prog (SRf V) (ro 10) L10 lp10a [false, true, false, true, true, true, true, true, true, true, true] [(4, none), (5, none), (8, none), (9, none), (11, none), (12, some 67), (13, none), (14, none)] 37 (s10a' u v t9 t12 t13 t14 os hs st tl th ms m2_0 m2_1 m2_2 m2_3 m2_4 m2_5 m36_0 m36_1) e s := by
  unfold q10a' at hch
  have main := fun y h => LB_run (x := (⟨t12, t13, t14⟩ : S10a')) (y := y) (nb := 37) (fun y => by cases y <;> simp [ou10a']) (rnd10a' (V := V) u v t9 os hs st tl th ms m2_0 m2_1 m2_2 m2_3 m2_4 m2_5 m36_0 m36_1) h
  obtain ⟨x, hx, hg, rfl, rfl⟩ := chosen_any hch
  simp only [List.mem_cons, List.not_mem_nil, or_false] at hx
  subst hx
  exact main _ (is10a'_0 u v t9 os hs st tl th ms m2_0 m2_1 m2_2 m2_3 m2_4 m2_5 m36_0 m36_1 t12 t13 t14 hg)
theorem lok10a' {V : Lr} {st : St} {outs : List (Bool × Ex × St)} {e : Ex} {s : St} (hl : l10a' st = some outs) (hch : Chosen outs e s) :
    ∃ keep nb, 0 ≤ nb ∧ LB Try.prog (SRf V) (ro 10) L10 lp10a [false, true, false, true, true, true, true, true, true, true, true] keep nb st e s := by
  unfold l10a' at hl
  obtain ⟨ls, hno, rfl⟩ := qget_some hl
  have hno := normW_norm hno
  refine ⟨_, _, ?_, .enterQ hno (s2 := s10a' (lI ls 0) (lI ls 1) (lI ls 2) (lLL ls 3) (lB ls 4) (lI ls 5) (lLL ls 6) (lLL ls 7) (lI ls 8) (lI ls 9) (lI ls 10) (lLL ls 11) (lLL ls 12) (lLL ls 13) (lI ls 14) (lI ls 15) (lI ls 16) (lLL ls 17) (lI ls 18) (lI ls 19)) (by kernel_rfl) (lokb10a' _ _ _ _ _ _ _ _ _ _ _ _ _ _ _ _ _ _ _ _ hch)⟩
  decide
theorem L10_ok {V : Lr} (q : Pl) (c : Code) (hq : locate c10 q.reverse = some (.loop c)) (st : St) (outs : List (Bool × Ex × St)) (e : Ex) (s : St) (hl : L10 q st = some outs) (hch : Chosen outs e s) :
    ∃ keep nb, 0 ≤ nb ∧ LB Try.prog (SRf V) (ro 10) L10 c q keep nb st e s := by
  unfold L10 at hl
  split at hl
  · have : locate c10 ([false, true, false, true, true, true, true, true, true, true, true] : Pl).reverse = some (.loop lp10a) := by kernel_rfl
    rw [this] at hq
    cases hq
    rcases orL_some hl with hl | hl
    · exact lok10a hl hch
    exact lok10a' hl hch
  · cases hl
theorem lok10 {V : Lr} : LOK Try.prog (SRf V) (ro 10) L10 0 false c10 [] :=
  lok_lo L10_ok c10 [] false (locate_nil _) (by kernel_rfl)
noncomputable def t10 (V : Lr) (os hs : List (List AV)) (st tl th : Int) (ms : List (List AV)) (u v rd wr : Int) : Tr ((List (List AV)) × (List (List AV)) × (Int) × (Int) × (Int) × (List (List AV)) × (Int)) :=
  .cn (V.g28 os hs st tl th ms) (.cn (V.w28 os hs st tl th ms != 0) (.cn (V.w28 os hs st tl th ms != 0) (.lf ([], [], 0, 0, 0, [], V.w28 os hs st tl th ms)) (.cn ((os.length * 16).ble 140737488355328 && ((hs.length * 32).ble 140737488355328 && (ms.length * 32).ble 140737488355328)) (.cn (i10a_0 u v 0 os hs st tl th ms [] [] 0 0 0 [] (bmax 0 (IntKind.i64.wrap (rd - wr))) (bmin 2000 (IntKind.i64.wrap (rd + wr))) [] false 0) (.cn (!v10a_0_t13 u v 0 os hs st tl th ms [] [] 0 0 0 [] (bmax 0 (IntKind.i64.wrap (rd - wr))) (bmin 2000 (IntKind.i64.wrap (rd + wr))) [] false 0) (.cn (((v10a_0_t12 u v 0 os hs st tl th ms [] [] 0 0 0 [] (bmax 0 (IntKind.i64.wrap (rd - wr))) (bmin 2000 (IntKind.i64.wrap (rd + wr))) [] false 0).length + [[AV.i IntKind.i64 u, AV.i IntKind.i64 v, AV.i IntKind.i64 (bmax 0 (IntKind.i64.wrap (rd - wr))), AV.i IntKind.i64 (bmin 2000 (IntKind.i64.wrap (rd + wr)))]].length).ble 9223372036854775807 && true) (.cn ((((v10a_0_t12 u v 0 os hs st tl th ms [] [] 0 0 0 [] (bmax 0 (IntKind.i64.wrap (rd - wr))) (bmin 2000 (IntKind.i64.wrap (rd + wr))) [] false 0).length + [[AV.i IntKind.i64 u, AV.i IntKind.i64 v, AV.i IntKind.i64 (bmax 0 (IntKind.i64.wrap (rd - wr))), AV.i IntKind.i64 (bmin 2000 (IntKind.i64.wrap (rd + wr)))]].length) * 32).ble 140737488355328) (.cn ((v10a_0_t12 u v 0 os hs st tl th ms [] [] 0 0 0 [] (bmax 0 (IntKind.i64.wrap (rd - wr))) (bmin 2000 (IntKind.i64.wrap (rd + wr))) [] false 0).isEmpty && false) (.cn (V.g28 os hs st tl th (bif true && true then [[AV.i IntKind.i64 u, AV.i IntKind.i64 v, AV.i IntKind.i64 (bmax 0 (IntKind.i64.wrap (rd - wr))), AV.i IntKind.i64 (bmin 2000 (IntKind.i64.wrap (rd + wr)))]] else List.take [[AV.i IntKind.i64 u, AV.i IntKind.i64 v, AV.i IntKind.i64 (bmax 0 (IntKind.i64.wrap (rd - wr))), AV.i IntKind.i64 (bmin 2000 (IntKind.i64.wrap (rd + wr)))]].length (List.drop 0 [[AV.i IntKind.i64 u, AV.i IntKind.i64 v, AV.i IntKind.i64 (bmax 0 (IntKind.i64.wrap (rd - wr))), AV.i IntKind.i64 (bmin 2000 (IntKind.i64.wrap (rd + wr)))]]))) (.cn (V.w28 os hs st tl th (bif true && true then [[AV.i IntKind.i64 u, AV.i IntKind.i64 v, AV.i IntKind.i64 (bmax 0 (IntKind.i64.wrap (rd - wr))), AV.i IntKind.i64 (bmin 2000 (IntKind.i64.wrap (rd + wr)))]] else List.take [[AV.i IntKind.i64 u, AV.i IntKind.i64 v, AV.i IntKind.i64 (bmax 0 (IntKind.i64.wrap (rd - wr))), AV.i IntKind.i64 (bmin 2000 (IntKind.i64.wrap (rd + wr)))]].length (List.drop 0 [[AV.i IntKind.i64 u, AV.i IntKind.i64 v, AV.i IntKind.i64 (bmax 0 (IntKind.i64.wrap (rd - wr))), AV.i IntKind.i64 (bmin 2000 (IntKind.i64.wrap (rd + wr)))]])) != 0) (.lf ([], [], 0, 0, 0, [], 10)) (.lf (os, hs, st, tl, th, bif true && true then [[AV.i IntKind.i64 u, AV.i IntKind.i64 v, AV.i IntKind.i64 (bmax 0 (IntKind.i64.wrap (rd - wr))), AV.i IntKind.i64 (bmin 2000 (IntKind.i64.wrap (rd + wr)))]] else List.take [[AV.i IntKind.i64 u, AV.i IntKind.i64 v, AV.i IntKind.i64 (bmax 0 (IntKind.i64.wrap (rd - wr))), AV.i IntKind.i64 (bmin 2000 (IntKind.i64.wrap (rd + wr)))]].length (List.drop 0 [[AV.i IntKind.i64 u, AV.i IntKind.i64 v, AV.i IntKind.i64 (bmax 0 (IntKind.i64.wrap (rd - wr))), AV.i IntKind.i64 (bmin 2000 (IntKind.i64.wrap (rd + wr)))]]), 0))) (.nn)) (.cn (decide ((↑(v10a_0_t12 u v 0 os hs st tl th ms [] [] 0 0 0 [] (bmax 0 (IntKind.i64.wrap (rd - wr))) (bmin 2000 (IntKind.i64.wrap (rd + wr))) [] false 0 ++ [[AV.i IntKind.i64 u, AV.i IntKind.i64 v, AV.i IntKind.i64 (bmax 0 (IntKind.i64.wrap (rd - wr))), AV.i IntKind.i64 (bmin 2000 (IntKind.i64.wrap (rd + wr)))]]).length : Int) > 40)) (.lf ([], [], 0, 0, 0, [], 3)) (.cn (V.g28 os hs st tl th (v10a_0_t12 u v 0 os hs st tl th ms [] [] 0 0 0 [] (bmax 0 (IntKind.i64.wrap (rd - wr))) (bmin 2000 (IntKind.i64.wrap (rd + wr))) [] false 0 ++ [[AV.i IntKind.i64 u, AV.i IntKind.i64 v, AV.i IntKind.i64 (bmax 0 (IntKind.i64.wrap (rd - wr))), AV.i IntKind.i64 (bmin 2000 (IntKind.i64.wrap (rd + wr)))]])) (.cn (V.w28 os hs st tl th (v10a_0_t12 u v 0 os hs st tl th ms [] [] 0 0 0 [] (bmax 0 (IntKind.i64.wrap (rd - wr))) (bmin 2000 (IntKind.i64.wrap (rd + wr))) [] false 0 ++ [[AV.i IntKind.i64 u, AV.i IntKind.i64 v, AV.i IntKind.i64 (bmax 0 (IntKind.i64.wrap (rd - wr))), AV.i IntKind.i64 (bmin 2000 (IntKind.i64.wrap (rd + wr)))]]) != 0) (.lf ([], [], 0, 0, 0, [], 10)) (.lf (os, hs, st, tl, th, v10a_0_t12 u v 0 os hs st tl th ms [] [] 0 0 0 [] (bmax 0 (IntKind.i64.wrap (rd - wr))) (bmin 2000 (IntKind.i64.wrap (rd + wr))) [] false 0 ++ [[AV.i IntKind.i64 u, AV.i IntKind.i64 v, AV.i IntKind.i64 (bmax 0 (IntKind.i64.wrap (rd - wr))), AV.i IntKind.i64 (bmin 2000 (IntKind.i64.wrap (rd + wr)))]], 0))) (.nn)))) (.nn)) (.nn)) (.cn (decide ((↑(v10a_0_t12 u v 0 os hs st tl th ms [] [] 0 0 0 [] (bmax 0 (IntKind.i64.wrap (rd - wr))) (bmin 2000 (IntKind.i64.wrap (rd + wr))) [] false 0).length : Int) > 40)) (.lf ([], [], 0, 0, 0, [], 3)) (.cn (V.g28 os hs st tl th (v10a_0_t12 u v 0 os hs st tl th ms [] [] 0 0 0 [] (bmax 0 (IntKind.i64.wrap (rd - wr))) (bmin 2000 (IntKind.i64.wrap (rd + wr))) [] false 0)) (.cn (V.w28 os hs st tl th (v10a_0_t12 u v 0 os hs st tl th ms [] [] 0 0 0 [] (bmax 0 (IntKind.i64.wrap (rd - wr))) (bmin 2000 (IntKind.i64.wrap (rd + wr))) [] false 0) != 0) (.lf ([], [], 0, 0, 0, [], 10)) (.lf (os, hs, st, tl, th, v10a_0_t12 u v 0 os hs st tl th ms [] [] 0 0 0 [] (bmax 0 (IntKind.i64.wrap (rd - wr))) (bmin 2000 (IntKind.i64.wrap (rd + wr))) [] false 0, 0))) (.nn)))) (.nn)) (.nn))) (.cn (V.g29 os hs u v) (.cn (!V.w29 os hs u v) (.lf ([], [], 0, 0, 0, [], 7)) (.cn (g30 rd 0 2000) (.cn (!w30_0 rd 0 2000) (.lf ([], [], 0, 0, 0, [], 1)) (.cn (g30 wr 0 2000) (.cn (!w30_0 wr 0 2000) (.lf ([], [], 0, 0, 0, [], 1)) (.cn (V.w28 os hs st tl th ms != 0) (.lf ([], [], 0, 0, 0, [], V.w28 os hs st tl th ms)) (.cn ((os.length * 16).ble 140737488355328 && ((hs.length * 32).ble 140737488355328 && (ms.length * 32).ble 140737488355328)) (.cn (i10a'_0 u v 0 os hs st tl th ms [] [] 0 0 0 [] (bmax 0 (IntKind.i64.wrap (rd - wr))) (bmin 2000 (IntKind.i64.wrap (rd + wr))) [] false 0) (.cn (!v10a'_0_t13 u v 0 os hs st tl th ms [] [] 0 0 0 [] (bmax 0 (IntKind.i64.wrap (rd - wr))) (bmin 2000 (IntKind.i64.wrap (rd + wr))) [] false 0) (.cn (((v10a'_0_t12 u v 0 os hs st tl th ms [] [] 0 0 0 [] (bmax 0 (IntKind.i64.wrap (rd - wr))) (bmin 2000 (IntKind.i64.wrap (rd + wr))) [] false 0).length + [[AV.i IntKind.i64 u, AV.i IntKind.i64 v, AV.i IntKind.i64 (bmax 0 (IntKind.i64.wrap (rd - wr))), AV.i IntKind.i64 (bmin 2000 (IntKind.i64.wrap (rd + wr)))]].length).ble 9223372036854775807 && true) (.cn ((((v10a'_0_t12 u v 0 os hs st tl th ms [] [] 0 0 0 [] (bmax 0 (IntKind.i64.wrap (rd - wr))) (bmin 2000 (IntKind.i64.wrap (rd + wr))) [] false 0).length + [[AV.i IntKind.i64 u, AV.i IntKind.i64 v, AV.i IntKind.i64 (bmax 0 (IntKind.i64.wrap (rd - wr))), AV.i IntKind.i64 (bmin 2000 (IntKind.i64.wrap (rd + wr)))]].length) * 32).ble 140737488355328) (.cn ((v10a'_0_t12 u v 0 os hs st tl th ms [] [] 0 0 0 [] (bmax 0 (IntKind.i64.wrap (rd - wr))) (bmin 2000 (IntKind.i64.wrap (rd + wr))) [] false 0).isEmpty && false) (.cn (V.g28 os hs st tl th (bif true && true then [[AV.i IntKind.i64 u, AV.i IntKind.i64 v, AV.i IntKind.i64 (bmax 0 (IntKind.i64.wrap (rd - wr))), AV.i IntKind.i64 (bmin 2000 (IntKind.i64.wrap (rd + wr)))]] else List.take [[AV.i IntKind.i64 u, AV.i IntKind.i64 v, AV.i IntKind.i64 (bmax 0 (IntKind.i64.wrap (rd - wr))), AV.i IntKind.i64 (bmin 2000 (IntKind.i64.wrap (rd + wr)))]].length (List.drop 0 [[AV.i IntKind.i64 u, AV.i IntKind.i64 v, AV.i IntKind.i64 (bmax 0 (IntKind.i64.wrap (rd - wr))), AV.i IntKind.i64 (bmin 2000 (IntKind.i64.wrap (rd + wr)))]]))) (.cn (V.w28 os hs st tl th (bif true && true then [[AV.i IntKind.i64 u, AV.i IntKind.i64 v, AV.i IntKind.i64 (bmax 0 (IntKind.i64.wrap (rd - wr))), AV.i IntKind.i64 (bmin 2000 (IntKind.i64.wrap (rd + wr)))]] else List.take [[AV.i IntKind.i64 u, AV.i IntKind.i64 v, AV.i IntKind.i64 (bmax 0 (IntKind.i64.wrap (rd - wr))), AV.i IntKind.i64 (bmin 2000 (IntKind.i64.wrap (rd + wr)))]].length (List.drop 0 [[AV.i IntKind.i64 u, AV.i IntKind.i64 v, AV.i IntKind.i64 (bmax 0 (IntKind.i64.wrap (rd - wr))), AV.i IntKind.i64 (bmin 2000 (IntKind.i64.wrap (rd + wr)))]])) != 0) (.lf ([], [], 0, 0, 0, [], 10)) (.lf (os, hs, st, tl, th, bif true && true then [[AV.i IntKind.i64 u, AV.i IntKind.i64 v, AV.i IntKind.i64 (bmax 0 (IntKind.i64.wrap (rd - wr))), AV.i IntKind.i64 (bmin 2000 (IntKind.i64.wrap (rd + wr)))]] else List.take [[AV.i IntKind.i64 u, AV.i IntKind.i64 v, AV.i IntKind.i64 (bmax 0 (IntKind.i64.wrap (rd - wr))), AV.i IntKind.i64 (bmin 2000 (IntKind.i64.wrap (rd + wr)))]].length (List.drop 0 [[AV.i IntKind.i64 u, AV.i IntKind.i64 v, AV.i IntKind.i64 (bmax 0 (IntKind.i64.wrap (rd - wr))), AV.i IntKind.i64 (bmin 2000 (IntKind.i64.wrap (rd + wr)))]]), 0))) (.nn)) (.cn (decide ((↑(v10a'_0_t12 u v 0 os hs st tl th ms [] [] 0 0 0 [] (bmax 0 (IntKind.i64.wrap (rd - wr))) (bmin 2000 (IntKind.i64.wrap (rd + wr))) [] false 0 ++ [[AV.i IntKind.i64 u, AV.i IntKind.i64 v, AV.i IntKind.i64 (bmax 0 (IntKind.i64.wrap (rd - wr))), AV.i IntKind.i64 (bmin 2000 (IntKind.i64.wrap (rd + wr)))]]).length : Int) > 40)) (.lf ([], [], 0, 0, 0, [], 3)) (.cn (V.g28 os hs st tl th (v10a'_0_t12 u v 0 os hs st tl th ms [] [] 0 0 0 [] (bmax 0 (IntKind.i64.wrap (rd - wr))) (bmin 2000 (IntKind.i64.wrap (rd + wr))) [] false 0 ++ [[AV.i IntKind.i64 u, AV.i IntKind.i64 v, AV.i IntKind.i64 (bmax 0 (IntKind.i64.wrap (rd - wr))), AV.i IntKind.i64 (bmin 2000 (IntKind.i64.wrap (rd + wr)))]])) (.cn (V.w28 os hs st tl th (v10a'_0_t12 u v 0 os hs st tl th ms [] [] 0 0 0 [] (bmax 0 (IntKind.i64.wrap (rd - wr))) (bmin 2000 (IntKind.i64.wrap (rd + wr))) [] false 0 ++ [[AV.i IntKind.i64 u, AV.i IntKind.i64 v, AV.i IntKind.i64 (bmax 0 (IntKind.i64.wrap (rd - wr))), AV.i IntKind.i64 (bmin 2000 (IntKind.i64.wrap (rd + wr)))]]) != 0) (.lf ([], [], 0, 0, 0, [], 10)) (.lf (os, hs, st, tl, th, v10a'_0_t12 u v 0 os hs st tl th ms [] [] 0 0 0 [] (bmax 0 (IntKind.i64.wrap (rd - wr))) (bmin 2000 (IntKind.i64.wrap (rd + wr))) [] false 0 ++ [[AV.i IntKind.i64 u, AV.i IntKind.i64 v, AV.i IntKind.i64 (bmax 0 (IntKind.i64.wrap (rd - wr))), AV.i IntKind.i64 (bmin 2000 (IntKind.i64.wrap (rd + wr)))]], 0))) (.nn)))) (.nn)) (.nn)) (.cn (decide ((↑(v10a'_0_t12 u v 0 os hs st tl th ms [] [] 0 0 0 [] (bmax 0 (IntKind.i64.wrap (rd - wr))) (bmin 2000 (IntKind.i64.wrap (rd + wr))) [] false 0).length : Int) > 40)) (.lf ([], [], 0, 0, 0, [], 3)) (.cn (V.g28 os hs st tl th (v10a'_0_t12 u v 0 os hs st tl th ms [] [] 0 0 0 [] (bmax 0 (IntKind.i64.wrap (rd - wr))) (bmin 2000 (IntKind.i64.wrap (rd + wr))) [] false 0)) (.cn (V.w28 os hs st tl th (v10a'_0_t12 u v 0 os hs st tl th ms [] [] 0 0 0 [] (bmax 0 (IntKind.i64.wrap (rd - wr))) (bmin 2000 (IntKind.i64.wrap (rd + wr))) [] false 0) != 0) (.lf ([], [], 0, 0, 0, [], 10)) (.lf (os, hs, st, tl, th, v10a'_0_t12 u v 0 os hs st tl th ms [] [] 0 0 0 [] (bmax 0 (IntKind.i64.wrap (rd - wr))) (bmin 2000 (IntKind.i64.wrap (rd + wr))) [] false 0, 0))) (.nn)))) (.nn)) (.nn)))) (.nn))) (.nn))) (.nn))) (.nn)
noncomputable def g10 (V : Lr) (os hs : List (List AV)) (st tl th : Int) (ms : List (List AV)) (u v rd wr : Int) : Bool := (t10 V os hs st tl th ms u v rd wr).g
noncomputable def w10_0 (V : Lr) (os hs : List (List AV)) (st tl th : Int) (ms : List (List AV)) (u v rd wr : Int) : List (List AV) := (t10 V os hs st tl th ms u v rd wr).val.1
noncomputable def w10_1 (V : Lr) (os hs : List (List AV)) (st tl th : Int) (ms : List (List AV)) (u v rd wr : Int) : List (List AV) := (t10 V os hs st tl th ms u v rd wr).val.2.1
noncomputable def w10_2 (V : Lr) (os hs : List (List AV)) (st tl th : Int) (ms : List (List AV)) (u v rd wr : Int) : Int := (t10 V os hs st tl th ms u v rd wr).val.2.2.1
noncomputable def w10_3 (V : Lr) (os hs : List (List AV)) (st tl th : Int) (ms : List (List AV)) (u v rd wr : Int) : Int := (t10 V os hs st tl th ms u v rd wr).val.2.2.2.1
noncomputable def w10_4 (V : Lr) (os hs : List (List AV)) (st tl th : Int) (ms : List (List AV)) (u v rd wr : Int) : Int := (t10 V os hs st tl th ms u v rd wr).val.2.2.2.2.1
noncomputable def w10_5 (V : Lr) (os hs : List (List AV)) (st tl th : Int) (ms : List (List AV)) (u v rd wr : Int) : List (List AV) := (t10 V os hs st tl th ms u v rd wr).val.2.2.2.2.2.1
noncomputable def w10_6 (V : Lr) (os hs : List (List AV)) (st tl th : Int) (ms : List (List AV)) (u v rd wr : Int) : Int := (t10 V os hs st tl th ms u v rd wr).val.2.2.2.2.2.2
theorem eq10 (V : Lr) (os hs : List (List AV)) (st tl th : Int) (ms : List (List AV)) (u v rd wr : Int) : evF Try.prog (SRf V) (ro 10) L10 Try.f10 [.agg [.rs 32 os, .rs 55 hs, .i .i64 st, .i .i64 tl, .i .i64 th, .rs 67 ms], .agg [.i .i64 u, .i .i64 v], .i .i64 rd, .i .i64 wr] = (t10 V os hs st tl th ms u v rd wr).opt (fun (x : (List (List AV)) × (List (List AV)) × (Int) × (Int) × (Int) × (List (List AV)) × (Int)) => (.tup [.agg [.rs 32 x.1, .rs 55 x.2.1, .i .i64 x.2.2.1, .i .i64 x.2.2.2.1, .i .i64 x.2.2.2.2.1, .rs 67 x.2.2.2.2.2.1], .i .i64 x.2.2.2.2.2.2] : AV)) := by kernel_rfl
theorem con10 {V : Lr} (hV : V = U0) (os hs : List (List AV)) (st tl th : Int) (ms : List (List AV)) (u v rd wr : Int) (h : g10 V os hs st tl th ms u v rd wr = true) : Con Try.prog 10 [.agg [.rs 32 os, .rs 55 hs, .i .i64 st, .i .i64 tl, .i .i64 th, .rs 67 ms], .agg [.i .i64 u, .i .i64 v], .i .i64 rd, .i .i64 wr] [] (.tup [.agg [.rs 32 (w10_0 V os hs st tl th ms u v rd wr), .rs 55 (w10_1 V os hs st tl th ms u v rd wr), .i .i64 (w10_2 V os hs st tl th ms u v rd wr), .i .i64 (w10_3 V os hs st tl th ms u v rd wr), .i .i64 (w10_4 V os hs st tl th ms u v rd wr), .rs 67 (w10_5 V os hs st tl th ms u v rd wr)], .i .i64 (w10_6 V os hs st tl th ms u v rd wr)]) [] :=
  con_of (SRf_ok hV) mixed Try.func10 (c := c10) rfl (names 10 _ Try.func10) lok10 ((eq10 V os hs st tl th ms u v rd wr).trans (Tr.sound _ _ h))
noncomputable def e10 (args : List AV) (rows : List Blk) : Option (Bool × AV × List Blk) := match args, rows with
  | [.agg [.rs 32 os, .rs 55 hs, .i .i64 st, .i .i64 tl, .i .i64 th, .rs 67 ms], .agg [.i .i64 u, .i .i64 v], .i .i64 rd, .i .i64 wr], [] => some (g10 U0 os hs st tl th ms u v rd wr, .tup [.agg [.rs 32 (w10_0 U0 os hs st tl th ms u v rd wr), .rs 55 (w10_1 U0 os hs st tl th ms u v rd wr), .i .i64 (w10_2 U0 os hs st tl th ms u v rd wr), .i .i64 (w10_3 U0 os hs st tl th ms u v rd wr), .i .i64 (w10_4 U0 os hs st tl th ms u v rd wr), .rs 67 (w10_5 U0 os hs st tl th ms u v rd wr)], .i .i64 (w10_6 U0 os hs st tl th ms u v rd wr)], [])
  | _, _ => none
-- SPEC 10
end Go.Proofs.Ytoglnllbopcejaa

set_option maxRecDepth 100000
set_option linter.unusedVariables false
namespace Go.Proofs.Ytoglnllbopcejaa
open Go Go.Ev
def refL (p : Mk) : Bool → List Mk → List Mk
  | true, [] => []
  | false, [] => [p]
  | d, m :: r => if atP m p then mrg m p :: refL p true r else if d = false ∧ ahead p m then p :: m :: refL p true r else m :: refL p d r
theorem refL_cons (p : Mk) (d : Bool) (m : Mk) (r : List Mk) : refL p d (m :: r) = if atP m p then mrg m p :: refL p true r else if d = false ∧ ahead p m then p :: m :: refL p true r else m :: refL p d r := by
  cases d <;> rfl
theorem refL_done {p : Mk} : ∀ {L : List Mk}, (∀ x, x ∈ L → ¬ atP x p) → refL p true L = L
  | [], _ => rfl
  | m :: r, h => by
    unfold refL
    rw [if_neg (h m (by simp)), if_neg (by simp), refL_done fun x hx => h x (by simp [hx])]
theorem refL_ins {p : Mk} : ∀ {L : List Mk}, Sorted L → refL p false L = insM p L
  | [], _ => rfl
  | m :: r, h => by
    obtain ⟨h1, h2⟩ := List.pairwise_cons.1 h
    unfold refL insM
    by_cases he : atP m p
    · rw [if_pos he, if_pos he, refL_done fun x hx => ?_]
      have := h1 x hx
      unfold ahead atP at *; omega
    · rw [if_neg he, if_neg he]
      by_cases ha : ahead p m
      · rw [if_pos ha, if_pos ⟨rfl, ha⟩, refL_done fun x hx => ?_]
        have := h1 x hx
        unfold ahead atP at *; omega
      · rw [if_neg ha, if_neg (fun h => ha h.2), refL_ins h2]
theorem gm_drop {L : List Mk} {i : Nat} (h : i < L.length) : L.drop i = gm L i :: L.drop (i + 1) := by
  unfold gm
  exact drop_cons _ h
theorem ok1 {O : List Mk} {x : List AV} (h : O.length ≤ 100) : (((O.map en).length + [x].length).ble 9223372036854775807 && true) = true := by
  rw [List.length_map, Bool.and_true]
  exact nble (by simp; omega)
theorem ok2 {O : List Mk} {x : List AV} (h : O.length ≤ 100) : (((O.map en).length + [x].length) * 32).ble 140737488355328 = true := by
  rw [List.length_map]
  exact nble (by simp; omega)
theorem en_eta (m : Mk) : [AV.i IntKind.i64 (fI (en m) 0), AV.i IntKind.i64 (fI (en m) 1), AV.i IntKind.i64 (fI (en m) 2), AV.i IntKind.i64 (fI (en m) 3)] = en m := rfl
theorem en_mrg (m p : Mk) : [AV.i IntKind.i64 (fI (en m) 0), AV.i IntKind.i64 (fI (en m) 1), AV.i IntKind.i64 (bmax (fI (en m) 2) p.lo), AV.i IntKind.i64 (bmin (fI (en m) 3) p.hi)] = en (mrg m p) := by
  rw [bmax_max, bmin_min]; rfl
theorem map_snoc (O : List Mk) (m : Mk) : O.map en ++ [en m] = (O ++ [m]).map en := by rw [List.map_append]; rfl
theorem en_at (m p : Mk) : (fI (en m) 0 == p.u && fI (en m) 1 == p.v) = decide (atP m p) := by
  show (m.u == p.u && m.v == p.v) = _
  rw [Bool.eq_iff_iff, Bool.and_eq_true, beq_iff_eq, beq_iff_eq, decide_eq_true_eq]
  rfl
theorem r10_eq (os hs : List (List AV)) (st tl th : Int) {L : List Mk} (hS : Sorted L) (hl : L.length ≤ 40) (p : Mk) :
    ∃ O d, r10a' p.u p.v 0 os hs st tl th (L.map en) [] [] 0 0 0 [] p.lo p.hi [] false 0 = some (.x0 (O.map en) d (L.length : Int)) ∧ (cond d O (O ++ [p])) = insM p L ∧ O.length ≤ 41 := by
  have hlm : (L.map en).length = L.length := List.length_map _
  obtain ⟨y, hy, O, d, rfl, h1, h2⟩ := run_cnt (step := fun x => stp10a' p.u p.v 0 os hs st tl th (L.map en) [] [] 0 0 0 [] p.lo p.hi x.t12 x.t13 x.t14) L.length
    (fun i x => ∃ O d, x = ⟨O.map en, d, (i : Int)⟩ ∧ O ++ refL p d (L.drop i) = insM p L ∧ O.length ≤ i + cond d 1 0)
    (fun y => ∃ O d, y = .x0 (O.map en) d (L.length : Int) ∧ (cond d O (O ++ [p])) = insM p L ∧ O.length ≤ 41)
    (fun i x hi hx => by
      obtain ⟨O, d, rfl, h1, h2⟩ := hx
      have hO : O.length ≤ 41 := by cases d <;> simp at h2 <;> omega
      rw [gm_drop hi] at h1
      unfold stp10a'
      simp only [lt_true (show i < (L.map en).length by omega), inb_true (show i < (L.map en).length by omega), Int.toNat_natCast, map_getD hi, cond_true, ok1 (show O.length ≤ 100 by omega), ok2 (show O.length ≤ 100 by omega), Bool.and_false, cond_false, wrap_succ (show i < 9223372036854775807 by omega), en_eta, en_at, en_mrg, (k32 _ _ _ _).1, (k32 _ _ _ _).2]
      rw [refL_cons] at h1
      refine LpOK.cond (fun he => ?_) (fun he => ?_)
      · rw [if_pos (of_decide_eq_true he)] at h1
        refine ⟨O ++ [mrg (gm L i) p], true, by rw [← map_snoc], by rw [← h1]; simp, ?_⟩
        cases d <;> simp at h2 ⊢ <;> omega
      · rw [if_neg (of_decide_eq_false he)] at h1
        refine LpOK.cond (fun hd => ?_) (fun hd => ?_)
        · have hd : d = false := by simpa using hd
          subst hd
          simp only [cond_false, Nat.add_zero] at h2
          refine LpOK.cond (fun ha => ?_) (fun ha => ?_)
          · have ha : ahead p (gm L i) := (ahead_behind p (gm L i)).1 ha
            rw [if_pos ⟨rfl, ha⟩] at h1
            have e : ∀ x, (((O.map en ++ [[AV.i IntKind.i64 p.u, AV.i IntKind.i64 p.v, AV.i IntKind.i64 p.lo, AV.i IntKind.i64 p.hi]]).length + [x].length).ble 9223372036854775807 && true) = true := fun x => by
              rw [show [AV.i IntKind.i64 p.u, AV.i IntKind.i64 p.v, AV.i IntKind.i64 p.lo, AV.i IntKind.i64 p.hi] = en p from rfl, map_snoc]
              exact ok1 (by simp; omega)
            have e' : ∀ x, (((O.map en ++ [[AV.i IntKind.i64 p.u, AV.i IntKind.i64 p.v, AV.i IntKind.i64 p.lo, AV.i IntKind.i64 p.hi]]).length + [x].length) * 32).ble 140737488355328 = true := fun x => by
              rw [show [AV.i IntKind.i64 p.u, AV.i IntKind.i64 p.v, AV.i IntKind.i64 p.lo, AV.i IntKind.i64 p.hi] = en p from rfl, map_snoc]
              exact ok2 (by simp; omega)
            rw [e, e']
            refine ⟨O ++ [p] ++ [gm L i], true, ?_, by rw [← h1]; simp, by simp; omega⟩
            rw [← map_snoc, ← map_snoc]
            rfl
          · have ha : ¬ ahead p (gm L i) := fun h => Bool.noConfusion (ha.symm.trans ((ahead_behind p (gm L i)).2 h))
            rw [if_neg (fun h => ha h.2)] at h1
            exact ⟨O ++ [gm L i], false, by rw [← map_snoc], by rw [← h1]; simp, by simp; omega⟩
        · have hd : d = true := by simpa using hd
          subst hd
          rw [if_neg (by simp)] at h1
          exact ⟨O ++ [gm L i], true, by rw [← map_snoc], by rw [← h1]; simp, by simp at h2 ⊢; omega⟩)
    (fun x hx => by
      obtain ⟨O, d, rfl, h1, h2⟩ := hx
      unfold stp10a'
      simp only [show decide ((L.length : Int) < ((L.map en).length : Int)) = false from decide_eq_false (by omega), cond_false]
      refine ⟨O, d, rfl, ?_, by cases d <;> simp at h2 <;> omega⟩
      rw [List.drop_length] at h1
      cases d
      · exact h1
      · rw [← h1]; simp [refL])
    ⟨[], false, 0⟩ ⟨[], false, rfl, by simp [refL_ins hS], by simp⟩
  exact ⟨O, d, hy, h1, h2⟩
theorem k10 (os hs : List (List AV)) (st tl th : Int) (L : List Mk) (u v rd wr : Int) : g10 U0 os hs st tl th (L.map en) u v rd wr = true ∧ (t10 U0 os hs st tl th (L.map en) u v rd wr).val = probeX os hs st tl th L u v rd wr := by
  refine TrP.ok (t := t10 U0 os hs st tl th (L.map en) u v rd wr) (p := fun x => x = probeX os hs st tl th L u v rd wr) ?_
  unfold t10 probeX
  have e28 : ∀ ms, U0.w28 os hs st tl th ms = checkW os hs ms st tl th := fun ms => by
    show w28_0 os hs st tl th ms = _
    rw [(k28 os hs st tl th ms).2, check_eq]
  refine .t (k28 os hs st tl th _).1 ?_
  rw [e28]
  cases hc : checkW os hs (L.map en) st tl th != 0
  · have hF := check_fine.1 (by simpa using hc : checkW os hs (L.map en) st tl th = 0)
    have h12 := out_len hF.out
    have h6 := hF.six
    have h40 := hF.len
    have hh : hs.length < 9223372036854775807 := by omega
    have ho : os.length < 9223372036854775807 := by omega
    refine .f rfl (.t (k29 os hs u v ho hh).1 ?_)
    show TrP _ (.cn (!w29_0 os hs u v) _ _)
    rw [(k29 os hs u v ho hh).2, ← has_eq]
    cases hasB os hs u v
    · exact .t rfl rfl
    · refine .f rfl (.t (k30 _ _ _).1 ?_)
      rw [(k30 _ _ _).2]
      cases h1 : inB rd 0 2000
      · exact .t rfl rfl
      · refine .f rfl (.t (k30 _ _ _).1 ?_)
        rw [(k30 _ _ _).2]
        cases h2 : inB wr 0 2000
        · exact .t rfl rfl
        · obtain ⟨s1, s2⟩ := said_lo h1 h2
          have e1 : bmax 0 (IntKind.i64.wrap (rd - wr)) = (pr u v rd wr).lo := by rw [s1, bmax_max, Int.max_comm]; rfl
          have e2 : bmin 2000 (IntKind.i64.wrap (rd + wr)) = (pr u v rd wr).hi := by rw [s2, bmin_min, Int.min_comm]; rfl
          obtain ⟨O, d, hr, hO, hOl⟩ := r10_eq os hs st tl th hF.srt h40 (pr u v rd wr)
          refine .f rfl (.f rfl (.t (by simp [nble (show os.length * 16 ≤ 140737488355328 by omega), nble (show hs.length * 32 ≤ 140737488355328 by omega), nble (show L.length * 32 ≤ 140737488355328 by omega)]) ?_))
          unfold i10a'_0 v10a'_0_t12 v10a'_0_t13
          rw [e1, e2, show r10a' u v 0 os hs st tl th (L.map en) [] [] 0 0 0 [] (pr u v rd wr).lo (pr u v rd wr).hi [] false 0 = some (.x0 (O.map en) d (L.length : Int)) from hr]
          refine .t rfl ?_
          have e3 : O.map en ++ [[AV.i IntKind.i64 u, AV.i IntKind.i64 v, AV.i IntKind.i64 (pr u v rd wr).lo, AV.i IntKind.i64 (pr u v rd wr).hi]] = (O ++ [pr u v rd wr]).map en := map_snoc O (pr u v rd wr)
          cases d
          · have hO : O ++ [pr u v rd wr] = insM (pr u v rd wr) L := hO
            refine .t rfl (.t (ok1 (by omega)) (.t (ok2 (by omega)) (.f (Bool.and_false _) ?_)))
            simp only []
            rw [e3, hO, List.length_map]
            cases decide (((insM (pr u v rd wr) L).length : Int) > 40)
            · refine .f rfl (.t (k28 os hs st tl th _).1 ?_)
              rw [e28]
              cases checkW os hs ((insM (pr u v rd wr) L).map en) st tl th != 0
              · exact .f rfl rfl
              · exact .t rfl rfl
            · exact .t rfl rfl
          · have hO : O = insM (pr u v rd wr) L := hO
            refine .f rfl ?_
            simp only []
            rw [hO, List.length_map]
            cases decide (((insM (pr u v rd wr) L).length : Int) > 40)
            · refine .f rfl (.t (k28 os hs st tl th _).1 ?_)
              rw [e28]
              cases checkW os hs ((insM (pr u v rd wr) L).map en) st tl th != 0
              · exact .f rfl rfl
              · exact .t rfl rfl
            · exact .t rfl rfl
  · exact .t rfl (.t rfl rfl)
end Go.Proofs.Ytoglnllbopcejaa
