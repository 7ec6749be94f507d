/-
  Whatever the thicknesses are, as long as they are as the first skin says, probes that are wrong by no more than they may be, and seasons that take what they may, contradict nothing, and each point is as thick as its bounds say; the law's guards are those of the given statement.
-/
import Derived.Test.YtoglnllbopcejaaPf
import Derived.Test.YtoglnllbopcejaaPe
import Derived.Test.YtoglnllbopcejaaPd
import Derived.Test.YtoglnllbopcejaaPc
set_option linter.unusedVariables false
set_option maxRecDepth 100000
set_option linter.unusedVariables false
namespace Go.Proofs.Ytoglnllbopcejaa
open Go Go.Ev
theorem marks_of {e : TypeId} {es : List (List AV)} (hc : cts Try.prog e = [.int .i64, .int .i64, .int .i64, .int .i64]) (m2 : ∀ x, x ∈ es → x.length = (cts Try.prog e).length) (m3 : ∀ x, x ∈ es → ∀ j, j < x.length → WT Try.prog ((cts Try.prog e).getD j .oth) (x.getD j .u)) :
    (es.map fun e => (⟨fI e 0, fI e 1, fI e 2, fI e 3⟩ : Mk)).map en = es ∧ ∀ x, x ∈ (es.map fun e => (⟨fI e 0, fI e 1, fI e 2, fI e 3⟩ : Mk)) → (IntKind.i64.min ≤ x.lo ∧ x.lo ≤ IntKind.i64.max) ∧ (IntKind.i64.min ≤ x.hi ∧ x.hi ≤ IntKind.i64.max) := by
  have key : ∀ x, x ∈ es → en ⟨fI x 0, fI x 1, fI x 2, fI x 3⟩ = x ∧ (IntKind.i64.min ≤ fI x 2 ∧ fI x 2 ≤ IntKind.i64.max) ∧ (IntKind.i64.min ≤ fI x 3 ∧ fI x 3 ≤ IntKind.i64.max) := fun x hx => by
    have hl := m2 x hx
    have hc' := m3 x hx
    rw [hc] at hl hc'
    match x, hl with
    | [a, b, c, d], _ =>
      obtain ⟨x0, rfl, _⟩ := WT_int (show WT Try.prog (.int .i64) a from hc' 0 (by simp))
      obtain ⟨x1, rfl, _⟩ := WT_int (show WT Try.prog (.int .i64) b from hc' 1 (by simp))
      obtain ⟨x2, rfl, r2⟩ := WT_int (show WT Try.prog (.int .i64) c from hc' 2 (by simp))
      obtain ⟨x3, rfl, r3⟩ := WT_int (show WT Try.prog (.int .i64) d from hc' 3 (by simp))
      exact ⟨rfl, r2, r3⟩
  constructor
  · rw [List.map_map]
    conv => rhs; rw [← List.map_id es]
    exact List.map_congr_left fun x hx => (key x hx).1
  · intro y hy
    obtain ⟨x, hx, rfl⟩ := List.mem_map.1 hy
    exact (key x hx).2
theorem readings_of {a : AV} (h : TyArg Try.prog 40 a) : ∃ P : List Mk, a = .rs 43 (P.map en) ∧ ∀ x, x ∈ P → (IntKind.i64.min ≤ x.lo ∧ x.lo ≤ IntKind.i64.max) ∧ (IntKind.i64.min ≤ x.hi ∧ x.hi ≤ IntKind.i64.max) := by
  obtain ⟨es, rfl, m1, m2, m3⟩ := WT_sl (ty_one (c := .sl 43) (by kernel_rfl) (by kernel_rfl) h)
  obtain ⟨h1, h2⟩ := marks_of (by kernel_rfl) m2 m3
  exact ⟨_, by rw [h1], h2⟩
end Go.Proofs.Ytoglnllbopcejaa

set_option maxRecDepth 100000
set_option linter.unusedVariables false
namespace Go.Proofs.Ytoglnllbopcejaa
open Go Go.Ev
structure Lt where
  g7 : List (List AV) → List (List AV) → Int → Int → Int → List (List AV) → Bool
  w7 : List (List AV) → List (List AV) → Int → Int → Int → List (List AV) → Bool
  g9 : List (List AV) → List (List AV) → Int → Int → Int → List (List AV) → Int → Int → Int → Int → Bool
  p9 : List (List AV) → List (List AV) → Int → Int → Int → List (List AV) → Int → Int → Int → Int → (List (List AV)) × (List (List AV)) × Int × Int × Int × (List (List AV)) × Int
  g13 : List (List AV) → List (List AV) → Int → Int → Int → List (List AV) → Int → Int → Bool
  p13 : List (List AV) → List (List AV) → Int → Int → Int → List (List AV) → Int → Int → Int × Int × Int
  g15 : List (List AV) → List (List AV) → Int → Int → Int → List (List AV) → Bool
  w15 : List (List AV) → List (List AV) → Int → Int → Int → List (List AV) → Int
  g17 : List (List AV) → List (List AV) → Int → Int → Int → List (List AV) → Int → Int → Int → Bool
  p17 : List (List AV) → List (List AV) → Int → Int → Int → List (List AV) → Int → Int → Int → (List (List AV)) × (List (List AV)) × Int × Int × Int × (List (List AV)) × Int
  g14 : List (List AV) → Bool
  w14 : List (List AV) → Bool
  g16 : List (List AV) → Int → Int → Int → Int → Int → Bool
  w16 : List (List AV) → Int → Int → Int → Int → Int → Int
noncomputable def T0 : Lt := ⟨g7, w7_0, g9 V0, fun os hs st tl th ms u v rd wr => (t9 V0 os hs st tl th ms u v rd wr).val, g13, fun os hs st tl th ms u v => (t13 os hs st tl th ms u v).val, g15, w15_0, g17 V0, fun os hs st tl th ms lo hi gn => (t17 V0 os hs st tl th ms lo hi gn).val, g14, w14_0, g16, w16_0⟩
class LTc where
  V : Lt
  ok : V = T0
noncomputable def e7t [LTc] (args : List AV) (rows : List Blk) : Option (Bool × AV × List Blk) := match args, rows with
  | [.agg [.rs a os, .rs b hs, .i .i64 st, .i .i64 tl, .i .i64 th, .rs c ms]], [] => cond (Nat.beq a 32 && (Nat.beq b 55 && (Nat.beq c 67))) (some (LTc.V.g7 os hs st tl th ms, .b (LTc.V.w7 os hs st tl th ms), [])) none
  | _, _ => none
theorem e7t_ok [LTc] (args : List AV) (rows : List Blk) (pre : Bool) (v : AV) (rows' : List Blk) (h : e7t args rows = some (pre, v, rows')) (hp : pre = true) : Con Try.prog 7 args rows v rows' := by
  unfold e7t at h
  rw [LTc.ok] at h
  split at h <;> first | (cases h; done) | skip
  obtain ⟨h1, h2⟩ := cond_some2 h
  clear h
  simp only [Bool.and_eq_true] at h1
  obtain ⟨q0, q1, q2⟩ := h1
  obtain rfl := Nat.eq_of_beq_eq_true q0
  obtain rfl := Nat.eq_of_beq_eq_true q1
  obtain rfl := Nat.eq_of_beq_eq_true q2
  cases h2
  exact con7 _ _ _ _ _ _ hp
noncomputable def e9t [LTc] (args : List AV) (rows : List Blk) : Option (Bool × AV × List Blk) := match args, rows with
  | [.agg [.rs a os, .rs b hs, .i .i64 st, .i .i64 tl, .i .i64 th, .rs c ms], .agg [.i .i64 u, .i .i64 v], .i .i64 rd, .i .i64 wr], [] => cond (Nat.beq a 32 && (Nat.beq b 55 && (Nat.beq c 67))) (some (LTc.V.g9 os hs st tl th ms u v rd wr, .tup [.agg [.rs 32 (LTc.V.p9 os hs st tl th ms u v rd wr).1, .rs 55 (LTc.V.p9 os hs st tl th ms u v rd wr).2.1, .i .i64 (LTc.V.p9 os hs st tl th ms u v rd wr).2.2.1, .i .i64 (LTc.V.p9 os hs st tl th ms u v rd wr).2.2.2.1, .i .i64 (LTc.V.p9 os hs st tl th ms u v rd wr).2.2.2.2.1, .rs 67 (LTc.V.p9 os hs st tl th ms u v rd wr).2.2.2.2.2.1], .i .i64 (LTc.V.p9 os hs st tl th ms u v rd wr).2.2.2.2.2.2], [])) none
  | _, _ => none
theorem e9t_ok [LTc] (args : List AV) (rows : List Blk) (pre : Bool) (v : AV) (rows' : List Blk) (h : e9t args rows = some (pre, v, rows')) (hp : pre = true) : Con Try.prog 9 args rows v rows' := by
  unfold e9t at h
  rw [LTc.ok] at h
  split at h <;> first | (cases h; done) | skip
  obtain ⟨h1, h2⟩ := cond_some2 h
  clear h
  simp only [Bool.and_eq_true] at h1
  obtain ⟨q0, q1, q2⟩ := h1
  obtain rfl := Nat.eq_of_beq_eq_true q0
  obtain rfl := Nat.eq_of_beq_eq_true q1
  obtain rfl := Nat.eq_of_beq_eq_true q2
  cases h2
  exact con9 rfl _ _ _ _ _ _ _ _ _ _ hp
noncomputable def e13t [LTc] (args : List AV) (rows : List Blk) : Option (Bool × AV × List Blk) := match args, rows with
  | [.agg [.rs a os, .rs b hs, .i .i64 st, .i .i64 tl, .i .i64 th, .rs c ms], .agg [.i .i64 u, .i .i64 v]], [] => cond (Nat.beq a 32 && (Nat.beq b 55 && Nat.beq c 67)) (some (LTc.V.g13 os hs st tl th ms u v, .tup [.agg [.i .i64 (LTc.V.p13 os hs st tl th ms u v).1, .i .i64 (LTc.V.p13 os hs st tl th ms u v).2.1], .i .i64 (LTc.V.p13 os hs st tl th ms u v).2.2], [])) none
  | _, _ => none
theorem e13t_ok [LTc] (args : List AV) (rows : List Blk) (pre : Bool) (v : AV) (rows' : List Blk) (h : e13t args rows = some (pre, v, rows')) (hp : pre = true) : Con Try.prog 13 args rows v rows' := by
  unfold e13t at h
  rw [LTc.ok] at h
  split at h <;> first | (cases h; done) | skip
  obtain ⟨h1, h2⟩ := cond_some2 h
  clear h
  simp only [Bool.and_eq_true] at h1
  obtain ⟨q0, q1, q2⟩ := h1
  obtain rfl := Nat.eq_of_beq_eq_true q0
  obtain rfl := Nat.eq_of_beq_eq_true q1
  obtain rfl := Nat.eq_of_beq_eq_true q2
  cases h2
  exact con13 _ _ _ _ _ _ _ _ hp
noncomputable def e8t (args : List AV) (rows : List Blk) : Option (Bool × AV × List Blk) := match args, rows with
  | [], [] => some (true, .b true, [])
  | _, _ => none
theorem e8t_ok (args : List AV) (rows : List Blk) (pre : Bool) (v : AV) (rows' : List Blk) (h : e8t args rows = some (pre, v, rows')) (hp : pre = true) : Con Try.prog 8 args rows v rows' := by
  unfold e8t at h
  split at h
  · cases h; exact lives_con
  · cases h
noncomputable def e15t [LTc] (args : List AV) (rows : List Blk) : Option (Bool × AV × List Blk) := match args, rows with
  | [.agg [.rs a os, .rs b hs, .i .i64 st, .i .i64 tl, .i .i64 th, .rs c ms]], [] => cond (Nat.beq a 32 && (Nat.beq b 55 && (Nat.beq c 67))) (some (LTc.V.g15 os hs st tl th ms, .i .i64 (LTc.V.w15 os hs st tl th ms), [])) none
  | _, _ => none
theorem e15t_ok [LTc] (args : List AV) (rows : List Blk) (pre : Bool) (v : AV) (rows' : List Blk) (h : e15t args rows = some (pre, v, rows')) (hp : pre = true) : Con Try.prog 15 args rows v rows' := by
  unfold e15t at h
  rw [LTc.ok] at h
  split at h <;> first | (cases h; done) | skip
  obtain ⟨h1, h2⟩ := cond_some2 h
  clear h
  simp only [Bool.and_eq_true] at h1
  obtain ⟨q0, q1, q2⟩ := h1
  obtain rfl := Nat.eq_of_beq_eq_true q0
  obtain rfl := Nat.eq_of_beq_eq_true q1
  obtain rfl := Nat.eq_of_beq_eq_true q2
  cases h2
  exact con15 _ _ _ _ _ _ hp
noncomputable def e17t [LTc] (args : List AV) (rows : List Blk) : Option (Bool × AV × List Blk) := match args, rows with
  | [.agg [.rs a os, .rs b hs, .i .i64 st, .i .i64 tl, .i .i64 th, .rs c ms], .agg [.i .i64 lo, .i .i64 hi], .i .i64 gn], [] => cond (Nat.beq a 32 && (Nat.beq b 55 && (Nat.beq c 67))) (some (LTc.V.g17 os hs st tl th ms lo hi gn, .tup [.agg [.rs 32 (LTc.V.p17 os hs st tl th ms lo hi gn).1, .rs 55 (LTc.V.p17 os hs st tl th ms lo hi gn).2.1, .i .i64 (LTc.V.p17 os hs st tl th ms lo hi gn).2.2.1, .i .i64 (LTc.V.p17 os hs st tl th ms lo hi gn).2.2.2.1, .i .i64 (LTc.V.p17 os hs st tl th ms lo hi gn).2.2.2.2.1, .rs 67 (LTc.V.p17 os hs st tl th ms lo hi gn).2.2.2.2.2.1], .i .i64 (LTc.V.p17 os hs st tl th ms lo hi gn).2.2.2.2.2.2], [])) none
  | _, _ => none
theorem e17t_ok [LTc] (args : List AV) (rows : List Blk) (pre : Bool) (v : AV) (rows' : List Blk) (h : e17t args rows = some (pre, v, rows')) (hp : pre = true) : Con Try.prog 17 args rows v rows' := by
  unfold e17t at h
  rw [LTc.ok] at h
  split at h <;> first | (cases h; done) | skip
  obtain ⟨h1, h2⟩ := cond_some2 h
  clear h
  simp only [Bool.and_eq_true] at h1
  obtain ⟨q0, q1, q2⟩ := h1
  obtain rfl := Nat.eq_of_beq_eq_true q0
  obtain rfl := Nat.eq_of_beq_eq_true q1
  obtain rfl := Nat.eq_of_beq_eq_true q2
  cases h2
  exact con17 rfl _ _ _ _ _ _ _ _ _ hp
noncomputable def e14t [LTc] (args : List AV) (rows : List Blk) : Option (Bool × AV × List Blk) := match args, rows with
  | [.rs a hl], [] => cond (Nat.beq a 76) (some (LTc.V.g14 hl, .b (LTc.V.w14 hl), [])) none
  | _, _ => none
theorem e14t_ok [LTc] (args : List AV) (rows : List Blk) (pre : Bool) (v : AV) (rows' : List Blk) (h : e14t args rows = some (pre, v, rows')) (hp : pre = true) : Con Try.prog 14 args rows v rows' := by
  unfold e14t at h
  rw [LTc.ok] at h
  split at h <;> first | (cases h; done) | skip
  obtain ⟨q0, h2⟩ := cond_some2 h
  clear h
  obtain rfl := Nat.eq_of_beq_eq_true q0
  cases h2
  exact con14 _ hp
noncomputable def e16t [LTc] (args : List AV) (rows : List Blk) : Option (Bool × AV × List Blk) := match args, rows with
  | [.rs a hl, .i .i64 st, .agg [.i .i64 lo, .i .i64 hi], .agg [.i .i64 u, .i .i64 v]], [] => cond (Nat.beq a 76) (some (LTc.V.g16 hl st lo hi u v, .i .i64 (LTc.V.w16 hl st lo hi u v), [])) none
  | _, _ => none
theorem e16t_ok [LTc] (args : List AV) (rows : List Blk) (pre : Bool) (v : AV) (rows' : List Blk) (h : e16t args rows = some (pre, v, rows')) (hp : pre = true) : Con Try.prog 16 args rows v rows' := by
  unfold e16t at h
  rw [LTc.ok] at h
  split at h <;> first | (cases h; done) | skip
  obtain ⟨q0, h2⟩ := cond_some2 h
  clear h
  obtain rfl := Nat.eq_of_beq_eq_true q0
  cases h2
  exact con16 _ _ _ _ _ _ hp
noncomputable def ST [LTc] : Ev.Spec := insS 17 e17t (insS 16 e16t (insS 15 e15t (insS 14 e14t (insS 13 e13t (insS 9 e9t (insS 8 e8t (insS 7 e7t S0)))))))
theorem ST_ok [LTc] : SpecOK Try.prog ST := insS_ok e17t_ok (insS_ok e16t_ok (insS_ok e15t_ok (insS_ok e14t_ok (insS_ok e13t_ok (insS_ok e9t_ok (insS_ok e8t_ok (insS_ok e7t_ok S0_ok)))))))
end Go.Proofs.Ytoglnllbopcejaa

set_option maxRecDepth 100000
set_option maxHeartbeats 0
set_option linter.unusedVariables false
namespace Go.Proofs.Ytoglnllbopcejaa
open Go Go.Ev
variable [LTc]

noncomputable def c6 : Code := match Try.f6.body with | some c => c | _ => .skip
noncomputable def lp6a : Code := loopAt c6 [true, true, true, false, true, false]
noncomputable def s6a (hl ps : List (List AV)) (u v : Int) (t8 : Bool) (t10 t11 : Int) (os hs : List (List AV)) (st tl th : Int) (ms m27_0 m27_1 : List (List AV)) (m27_2 m27_3 m27_4 : Int) (m27_5 : List (List AV)) : St :=
  { t := [(1, .rs 76 hl), (2, .rs 43 ps), (4, .p 0 0 0), (7, .rp [.int .i64, .int .i64] [.i .i64 u, .i .i64 v] 0), (8, .b t8), (9, .p 27 0 0), (10, .i .i64 t10), (11, .i .i64 t11)], m := [(0, .row 30 [[.rs 32 os, .rs 55 hs, .i .i64 st, .i .i64 tl, .i .i64 th, .rs 67 ms]]), (1, .dead), (2, .dead), (3, .dead), (4, .dead), (5, .dead), (6, .dead), (7, .dead), (8, .dead), (9, .dead), (10, .dead), (11, .dead), (12, .dead), (13, .dead), (14, .dead), (15, .dead), (16, .dead), (17, .dead), (18, .dead), (19, .dead), (20, .dead), (21, .dead), (22, .dead), (23, .dead), (24, .dead), (25, .dead), (26, .dead), (27, .row 30 [[.rs 32 m27_0, .rs 55 m27_1, .i .i64 m27_2, .i .i64 m27_3, .i .i64 m27_4, .rs 67 m27_5]])], nx := 28, nt := 186 }
structure S6a where
  t10 : Int
  t11 : Int
  os : List (List AV)
  hs : List (List AV)
  st : Int
  tl : Int
  th : Int
  ms : List (List AV)
inductive T6a where
  | x0 (t8' : Bool) (t10 : Int) (t11 : Int) (m0_0 : List (List AV)) (m0_1 : List (List AV)) (m0_2 : Int) (m0_3 : Int) (m0_4 : Int) (m0_5 : List (List AV))
  | x1 (t10 : Int) (t11 : Int) (m0_0 : List (List AV)) (m0_1 : List (List AV)) (m0_2 : Int) (m0_3 : Int) (m0_4 : Int) (m0_5 : List (List AV))
noncomputable def stp6a (hl ps : List (List AV)) (u v : Int) (t8 : Bool) (m27_0 m27_1 : List (List AV)) (m27_2 m27_3 m27_4 : Int) (m27_5 : List (List AV)) (t10 t11 : Int) (os hs : List (List AV)) (st tl th : Int) (ms : List (List AV)) : Lp S6a T6a :=
  cond (decide (t11 < (↑ps.length : Int))) (cond (inb t11 ps.length) (cond (decide (fI (ps.getD t11.toNat []) 3 < 0)) (.out (.x0 true t10 t11 os hs st tl th ms)) (cond (decide (fI (ps.getD t11.toNat []) 3 > 100)) (.out (.x0 true t10 t11 os hs st tl th ms)) (cond (decide (fI (ps.getD t11.toNat []) 0 < -1000)) (.out (.x0 true t10 t11 os hs st tl th ms)) (cond (decide (fI (ps.getD t11.toNat []) 1 < -1000)) (.out (.x0 true t10 t11 os hs st tl th ms)) (cond (decide (fI (ps.getD t11.toNat []) 0 > 1000)) (.out (.x0 true t10 t11 os hs st tl th ms)) (cond (decide (fI (ps.getD t11.toNat []) 1 > 1000)) (.out (.x0 true t10 t11 os hs st tl th ms)) (cond (LTc.V.g16 hl m27_2 m27_3 m27_4 (fI (ps.getD t11.toNat []) 0) (fI (ps.getD t11.toNat []) 1)) (cond (decide (IntKind.i64.wrap (fI (ps.getD t11.toNat []) 3 + 1) = 0)) (.bad) (cond (LTc.V.g9 os hs st tl th ms (fI (ps.getD t11.toNat []) 0) (fI (ps.getD t11.toNat []) 1) (bmin 2000 (bmax 0 (IntKind.i64.wrap (bmax 0 (IntKind.i64.wrap (LTc.V.w16 hl m27_2 m27_3 m27_4 (fI (ps.getD t11.toNat []) 0) (fI (ps.getD t11.toNat []) 1) - t10)) + (fI (ps.getD t11.toNat []) 2).tmod (IntKind.i64.wrap (fI (ps.getD t11.toNat []) 3 + 1)))))) (fI (ps.getD t11.toNat []) 3)) (cond ((LTc.V.p9 os hs st tl th ms (fI (ps.getD t11.toNat []) 0) (fI (ps.getD t11.toNat []) 1) (bmin 2000 (bmax 0 (IntKind.i64.wrap (bmax 0 (IntKind.i64.wrap (LTc.V.w16 hl m27_2 m27_3 m27_4 (fI (ps.getD t11.toNat []) 0) (fI (ps.getD t11.toNat []) 1) - t10)) + (fI (ps.getD t11.toNat []) 2).tmod (IntKind.i64.wrap (fI (ps.getD t11.toNat []) 3 + 1)))))) (fI (ps.getD t11.toNat []) 3)).snd.snd.snd.snd.snd.snd == 7) (.go ⟨t10, IntKind.i64.wrap (t11 + 1), os, hs, st, tl, th, ms⟩) (cond ((LTc.V.p9 os hs st tl th ms (fI (ps.getD t11.toNat []) 0) (fI (ps.getD t11.toNat []) 1) (bmin 2000 (bmax 0 (IntKind.i64.wrap (bmax 0 (IntKind.i64.wrap (LTc.V.w16 hl m27_2 m27_3 m27_4 (fI (ps.getD t11.toNat []) 0) (fI (ps.getD t11.toNat []) 1) - t10)) + (fI (ps.getD t11.toNat []) 2).tmod (IntKind.i64.wrap (fI (ps.getD t11.toNat []) 3 + 1)))))) (fI (ps.getD t11.toNat []) 3)).snd.snd.snd.snd.snd.snd == 3) (.go ⟨t10, IntKind.i64.wrap (t11 + 1), os, hs, st, tl, th, ms⟩) (cond ((LTc.V.p9 os hs st tl th ms (fI (ps.getD t11.toNat []) 0) (fI (ps.getD t11.toNat []) 1) (bmin 2000 (bmax 0 (IntKind.i64.wrap (bmax 0 (IntKind.i64.wrap (LTc.V.w16 hl m27_2 m27_3 m27_4 (fI (ps.getD t11.toNat []) 0) (fI (ps.getD t11.toNat []) 1) - t10)) + (fI (ps.getD t11.toNat []) 2).tmod (IntKind.i64.wrap (fI (ps.getD t11.toNat []) 3 + 1)))))) (fI (ps.getD t11.toNat []) 3)).snd.snd.snd.snd.snd.snd != 0) (.out (.x0 false t10 t11 os hs st tl th ms)) (cond (t11.tmod 3 == 2) (cond (LTc.V.g17 (LTc.V.p9 os hs st tl th ms (fI (ps.getD t11.toNat []) 0) (fI (ps.getD t11.toNat []) 1) (bmin 2000 (bmax 0 (IntKind.i64.wrap (bmax 0 (IntKind.i64.wrap (LTc.V.w16 hl m27_2 m27_3 m27_4 (fI (ps.getD t11.toNat []) 0) (fI (ps.getD t11.toNat []) 1) - t10)) + (fI (ps.getD t11.toNat []) 2).tmod (IntKind.i64.wrap (fI (ps.getD t11.toNat []) 3 + 1)))))) (fI (ps.getD t11.toNat []) 3)).fst (LTc.V.p9 os hs st tl th ms (fI (ps.getD t11.toNat []) 0) (fI (ps.getD t11.toNat []) 1) (bmin 2000 (bmax 0 (IntKind.i64.wrap (bmax 0 (IntKind.i64.wrap (LTc.V.w16 hl m27_2 m27_3 m27_4 (fI (ps.getD t11.toNat []) 0) (fI (ps.getD t11.toNat []) 1) - t10)) + (fI (ps.getD t11.toNat []) 2).tmod (IntKind.i64.wrap (fI (ps.getD t11.toNat []) 3 + 1)))))) (fI (ps.getD t11.toNat []) 3)).snd.fst (LTc.V.p9 os hs st tl th ms (fI (ps.getD t11.toNat []) 0) (fI (ps.getD t11.toNat []) 1) (bmin 2000 (bmax 0 (IntKind.i64.wrap (bmax 0 (IntKind.i64.wrap (LTc.V.w16 hl m27_2 m27_3 m27_4 (fI (ps.getD t11.toNat []) 0) (fI (ps.getD t11.toNat []) 1) - t10)) + (fI (ps.getD t11.toNat []) 2).tmod (IntKind.i64.wrap (fI (ps.getD t11.toNat []) 3 + 1)))))) (fI (ps.getD t11.toNat []) 3)).snd.snd.fst (LTc.V.p9 os hs st tl th ms (fI (ps.getD t11.toNat []) 0) (fI (ps.getD t11.toNat []) 1) (bmin 2000 (bmax 0 (IntKind.i64.wrap (bmax 0 (IntKind.i64.wrap (LTc.V.w16 hl m27_2 m27_3 m27_4 (fI (ps.getD t11.toNat []) 0) (fI (ps.getD t11.toNat []) 1) - t10)) + (fI (ps.getD t11.toNat []) 2).tmod (IntKind.i64.wrap (fI (ps.getD t11.toNat []) 3 + 1)))))) (fI (ps.getD t11.toNat []) 3)).snd.snd.snd.fst (LTc.V.p9 os hs st tl th ms (fI (ps.getD t11.toNat []) 0) (fI (ps.getD t11.toNat []) 1) (bmin 2000 (bmax 0 (IntKind.i64.wrap (bmax 0 (IntKind.i64.wrap (LTc.V.w16 hl m27_2 m27_3 m27_4 (fI (ps.getD t11.toNat []) 0) (fI (ps.getD t11.toNat []) 1) - t10)) + (fI (ps.getD t11.toNat []) 2).tmod (IntKind.i64.wrap (fI (ps.getD t11.toNat []) 3 + 1)))))) (fI (ps.getD t11.toNat []) 3)).snd.snd.snd.snd.fst (LTc.V.p9 os hs st tl th ms (fI (ps.getD t11.toNat []) 0) (fI (ps.getD t11.toNat []) 1) (bmin 2000 (bmax 0 (IntKind.i64.wrap (bmax 0 (IntKind.i64.wrap (LTc.V.w16 hl m27_2 m27_3 m27_4 (fI (ps.getD t11.toNat []) 0) (fI (ps.getD t11.toNat []) 1) - t10)) + (fI (ps.getD t11.toNat []) 2).tmod (IntKind.i64.wrap (fI (ps.getD t11.toNat []) 3 + 1)))))) (fI (ps.getD t11.toNat []) 3)).snd.snd.snd.snd.snd.fst 5 10 0) (cond ((LTc.V.p17 (LTc.V.p9 os hs st tl th ms (fI (ps.getD t11.toNat []) 0) (fI (ps.getD t11.toNat []) 1) (bmin 2000 (bmax 0 (IntKind.i64.wrap (bmax 0 (IntKind.i64.wrap (LTc.V.w16 hl m27_2 m27_3 m27_4 (fI (ps.getD t11.toNat []) 0) (fI (ps.getD t11.toNat []) 1) - t10)) + (fI (ps.getD t11.toNat []) 2).tmod (IntKind.i64.wrap (fI (ps.getD t11.toNat []) 3 + 1)))))) (fI (ps.getD t11.toNat []) 3)).fst (LTc.V.p9 os hs st tl th ms (fI (ps.getD t11.toNat []) 0) (fI (ps.getD t11.toNat []) 1) (bmin 2000 (bmax 0 (IntKind.i64.wrap (bmax 0 (IntKind.i64.wrap (LTc.V.w16 hl m27_2 m27_3 m27_4 (fI (ps.getD t11.toNat []) 0) (fI (ps.getD t11.toNat []) 1) - t10)) + (fI (ps.getD t11.toNat []) 2).tmod (IntKind.i64.wrap (fI (ps.getD t11.toNat []) 3 + 1)))))) (fI (ps.getD t11.toNat []) 3)).snd.fst (LTc.V.p9 os hs st tl th ms (fI (ps.getD t11.toNat []) 0) (fI (ps.getD t11.toNat []) 1) (bmin 2000 (bmax 0 (IntKind.i64.wrap (bmax 0 (IntKind.i64.wrap (LTc.V.w16 hl m27_2 m27_3 m27_4 (fI (ps.getD t11.toNat []) 0) (fI (ps.getD t11.toNat []) 1) - t10)) + (fI (ps.getD t11.toNat []) 2).tmod (IntKind.i64.wrap (fI (ps.getD t11.toNat []) 3 + 1)))))) (fI (ps.getD t11.toNat []) 3)).snd.snd.fst (LTc.V.p9 os hs st tl th ms (fI (ps.getD t11.toNat []) 0) (fI (ps.getD t11.toNat []) 1) (bmin 2000 (bmax 0 (IntKind.i64.wrap (bmax 0 (IntKind.i64.wrap (LTc.V.w16 hl m27_2 m27_3 m27_4 (fI (ps.getD t11.toNat []) 0) (fI (ps.getD t11.toNat []) 1) - t10)) + (fI (ps.getD t11.toNat []) 2).tmod (IntKind.i64.wrap (fI (ps.getD t11.toNat []) 3 + 1)))))) (fI (ps.getD t11.toNat []) 3)).snd.snd.snd.fst (LTc.V.p9 os hs st tl th ms (fI (ps.getD t11.toNat []) 0) (fI (ps.getD t11.toNat []) 1) (bmin 2000 (bmax 0 (IntKind.i64.wrap (bmax 0 (IntKind.i64.wrap (LTc.V.w16 hl m27_2 m27_3 m27_4 (fI (ps.getD t11.toNat []) 0) (fI (ps.getD t11.toNat []) 1) - t10)) + (fI (ps.getD t11.toNat []) 2).tmod (IntKind.i64.wrap (fI (ps.getD t11.toNat []) 3 + 1)))))) (fI (ps.getD t11.toNat []) 3)).snd.snd.snd.snd.fst (LTc.V.p9 os hs st tl th ms (fI (ps.getD t11.toNat []) 0) (fI (ps.getD t11.toNat []) 1) (bmin 2000 (bmax 0 (IntKind.i64.wrap (bmax 0 (IntKind.i64.wrap (LTc.V.w16 hl m27_2 m27_3 m27_4 (fI (ps.getD t11.toNat []) 0) (fI (ps.getD t11.toNat []) 1) - t10)) + (fI (ps.getD t11.toNat []) 2).tmod (IntKind.i64.wrap (fI (ps.getD t11.toNat []) 3 + 1)))))) (fI (ps.getD t11.toNat []) 3)).snd.snd.snd.snd.snd.fst 5 10 0).snd.snd.snd.snd.snd.snd != 0) (.out (.x0 false t10 t11 ((LTc.V.p9 os hs st tl th ms (fI (ps.getD t11.toNat []) 0) (fI (ps.getD t11.toNat []) 1) (bmin 2000 (bmax 0 (IntKind.i64.wrap (bmax 0 (IntKind.i64.wrap (LTc.V.w16 hl m27_2 m27_3 m27_4 (fI (ps.getD t11.toNat []) 0) (fI (ps.getD t11.toNat []) 1) - t10)) + (fI (ps.getD t11.toNat []) 2).tmod (IntKind.i64.wrap (fI (ps.getD t11.toNat []) 3 + 1)))))) (fI (ps.getD t11.toNat []) 3)).fst) ((LTc.V.p9 os hs st tl th ms (fI (ps.getD t11.toNat []) 0) (fI (ps.getD t11.toNat []) 1) (bmin 2000 (bmax 0 (IntKind.i64.wrap (bmax 0 (IntKind.i64.wrap (LTc.V.w16 hl m27_2 m27_3 m27_4 (fI (ps.getD t11.toNat []) 0) (fI (ps.getD t11.toNat []) 1) - t10)) + (fI (ps.getD t11.toNat []) 2).tmod (IntKind.i64.wrap (fI (ps.getD t11.toNat []) 3 + 1)))))) (fI (ps.getD t11.toNat []) 3)).snd.fst) ((LTc.V.p9 os hs st tl th ms (fI (ps.getD t11.toNat []) 0) (fI (ps.getD t11.toNat []) 1) (bmin 2000 (bmax 0 (IntKind.i64.wrap (bmax 0 (IntKind.i64.wrap (LTc.V.w16 hl m27_2 m27_3 m27_4 (fI (ps.getD t11.toNat []) 0) (fI (ps.getD t11.toNat []) 1) - t10)) + (fI (ps.getD t11.toNat []) 2).tmod (IntKind.i64.wrap (fI (ps.getD t11.toNat []) 3 + 1)))))) (fI (ps.getD t11.toNat []) 3)).snd.snd.fst) ((LTc.V.p9 os hs st tl th ms (fI (ps.getD t11.toNat []) 0) (fI (ps.getD t11.toNat []) 1) (bmin 2000 (bmax 0 (IntKind.i64.wrap (bmax 0 (IntKind.i64.wrap (LTc.V.w16 hl m27_2 m27_3 m27_4 (fI (ps.getD t11.toNat []) 0) (fI (ps.getD t11.toNat []) 1) - t10)) + (fI (ps.getD t11.toNat []) 2).tmod (IntKind.i64.wrap (fI (ps.getD t11.toNat []) 3 + 1)))))) (fI (ps.getD t11.toNat []) 3)).snd.snd.snd.fst) ((LTc.V.p9 os hs st tl th ms (fI (ps.getD t11.toNat []) 0) (fI (ps.getD t11.toNat []) 1) (bmin 2000 (bmax 0 (IntKind.i64.wrap (bmax 0 (IntKind.i64.wrap (LTc.V.w16 hl m27_2 m27_3 m27_4 (fI (ps.getD t11.toNat []) 0) (fI (ps.getD t11.toNat []) 1) - t10)) + (fI (ps.getD t11.toNat []) 2).tmod (IntKind.i64.wrap (fI (ps.getD t11.toNat []) 3 + 1)))))) (fI (ps.getD t11.toNat []) 3)).snd.snd.snd.snd.fst) ((LTc.V.p9 os hs st tl th ms (fI (ps.getD t11.toNat []) 0) (fI (ps.getD t11.toNat []) 1) (bmin 2000 (bmax 0 (IntKind.i64.wrap (bmax 0 (IntKind.i64.wrap (LTc.V.w16 hl m27_2 m27_3 m27_4 (fI (ps.getD t11.toNat []) 0) (fI (ps.getD t11.toNat []) 1) - t10)) + (fI (ps.getD t11.toNat []) 2).tmod (IntKind.i64.wrap (fI (ps.getD t11.toNat []) 3 + 1)))))) (fI (ps.getD t11.toNat []) 3)).snd.snd.snd.snd.snd.fst))) (.go ⟨IntKind.i64.wrap (t10 + IntKind.i64.wrap (5 + (bmax 0 ((fI (ps.getD t11.toNat []) 2).tmod (IntKind.i64.wrap (fI (ps.getD t11.toNat []) 3 + 1)))).tmod 6)), IntKind.i64.wrap (t11 + 1), (LTc.V.p17 (LTc.V.p9 os hs st tl th ms (fI (ps.getD t11.toNat []) 0) (fI (ps.getD t11.toNat []) 1) (bmin 2000 (bmax 0 (IntKind.i64.wrap (bmax 0 (IntKind.i64.wrap (LTc.V.w16 hl m27_2 m27_3 m27_4 (fI (ps.getD t11.toNat []) 0) (fI (ps.getD t11.toNat []) 1) - t10)) + (fI (ps.getD t11.toNat []) 2).tmod (IntKind.i64.wrap (fI (ps.getD t11.toNat []) 3 + 1)))))) (fI (ps.getD t11.toNat []) 3)).fst (LTc.V.p9 os hs st tl th ms (fI (ps.getD t11.toNat []) 0) (fI (ps.getD t11.toNat []) 1) (bmin 2000 (bmax 0 (IntKind.i64.wrap (bmax 0 (IntKind.i64.wrap (LTc.V.w16 hl m27_2 m27_3 m27_4 (fI (ps.getD t11.toNat []) 0) (fI (ps.getD t11.toNat []) 1) - t10)) + (fI (ps.getD t11.toNat []) 2).tmod (IntKind.i64.wrap (fI (ps.getD t11.toNat []) 3 + 1)))))) (fI (ps.getD t11.toNat []) 3)).snd.fst (LTc.V.p9 os hs st tl th ms (fI (ps.getD t11.toNat []) 0) (fI (ps.getD t11.toNat []) 1) (bmin 2000 (bmax 0 (IntKind.i64.wrap (bmax 0 (IntKind.i64.wrap (LTc.V.w16 hl m27_2 m27_3 m27_4 (fI (ps.getD t11.toNat []) 0) (fI (ps.getD t11.toNat []) 1) - t10)) + (fI (ps.getD t11.toNat []) 2).tmod (IntKind.i64.wrap (fI (ps.getD t11.toNat []) 3 + 1)))))) (fI (ps.getD t11.toNat []) 3)).snd.snd.fst (LTc.V.p9 os hs st tl th ms (fI (ps.getD t11.toNat []) 0) (fI (ps.getD t11.toNat []) 1) (bmin 2000 (bmax 0 (IntKind.i64.wrap (bmax 0 (IntKind.i64.wrap (LTc.V.w16 hl m27_2 m27_3 m27_4 (fI (ps.getD t11.toNat []) 0) (fI (ps.getD t11.toNat []) 1) - t10)) + (fI (ps.getD t11.toNat []) 2).tmod (IntKind.i64.wrap (fI (ps.getD t11.toNat []) 3 + 1)))))) (fI (ps.getD t11.toNat []) 3)).snd.snd.snd.fst (LTc.V.p9 os hs st tl th ms (fI (ps.getD t11.toNat []) 0) (fI (ps.getD t11.toNat []) 1) (bmin 2000 (bmax 0 (IntKind.i64.wrap (bmax 0 (IntKind.i64.wrap (LTc.V.w16 hl m27_2 m27_3 m27_4 (fI (ps.getD t11.toNat []) 0) (fI (ps.getD t11.toNat []) 1) - t10)) + (fI (ps.getD t11.toNat []) 2).tmod (IntKind.i64.wrap (fI (ps.getD t11.toNat []) 3 + 1)))))) (fI (ps.getD t11.toNat []) 3)).snd.snd.snd.snd.fst (LTc.V.p9 os hs st tl th ms (fI (ps.getD t11.toNat []) 0) (fI (ps.getD t11.toNat []) 1) (bmin 2000 (bmax 0 (IntKind.i64.wrap (bmax 0 (IntKind.i64.wrap (LTc.V.w16 hl m27_2 m27_3 m27_4 (fI (ps.getD t11.toNat []) 0) (fI (ps.getD t11.toNat []) 1) - t10)) + (fI (ps.getD t11.toNat []) 2).tmod (IntKind.i64.wrap (fI (ps.getD t11.toNat []) 3 + 1)))))) (fI (ps.getD t11.toNat []) 3)).snd.snd.snd.snd.snd.fst 5 10 0).fst, (LTc.V.p17 (LTc.V.p9 os hs st tl th ms (fI (ps.getD t11.toNat []) 0) (fI (ps.getD t11.toNat []) 1) (bmin 2000 (bmax 0 (IntKind.i64.wrap (bmax 0 (IntKind.i64.wrap (LTc.V.w16 hl m27_2 m27_3 m27_4 (fI (ps.getD t11.toNat []) 0) (fI (ps.getD t11.toNat []) 1) - t10)) + (fI (ps.getD t11.toNat []) 2).tmod (IntKind.i64.wrap (fI (ps.getD t11.toNat []) 3 + 1)))))) (fI (ps.getD t11.toNat []) 3)).fst (LTc.V.p9 os hs st tl th ms (fI (ps.getD t11.toNat []) 0) (fI (ps.getD t11.toNat []) 1) (bmin 2000 (bmax 0 (IntKind.i64.wrap (bmax 0 (IntKind.i64.wrap (LTc.V.w16 hl m27_2 m27_3 m27_4 (fI (ps.getD t11.toNat []) 0) (fI (ps.getD t11.toNat []) 1) - t10)) + (fI (ps.getD t11.toNat []) 2).tmod (IntKind.i64.wrap (fI (ps.getD t11.toNat []) 3 + 1)))))) (fI (ps.getD t11.toNat []) 3)).snd.fst (LTc.V.p9 os hs st tl th ms (fI (ps.getD t11.toNat []) 0) (fI (ps.getD t11.toNat []) 1) (bmin 2000 (bmax 0 (IntKind.i64.wrap (bmax 0 (IntKind.i64.wrap (LTc.V.w16 hl m27_2 m27_3 m27_4 (fI (ps.getD t11.toNat []) 0) (fI (ps.getD t11.toNat []) 1) - t10)) + (fI (ps.getD t11.toNat []) 2).tmod (IntKind.i64.wrap (fI (ps.getD t11.toNat []) 3 + 1)))))) (fI (ps.getD t11.toNat []) 3)).snd.snd.fst (LTc.V.p9 os hs st tl th ms (fI (ps.getD t11.toNat []) 0) (fI (ps.getD t11.toNat []) 1) (bmin 2000 (bmax 0 (IntKind.i64.wrap (bmax 0 (IntKind.i64.wrap (LTc.V.w16 hl m27_2 m27_3 m27_4 (fI (ps.getD t11.toNat []) 0) (fI (ps.getD t11.toNat []) 1) - t10)) + (fI (ps.getD t11.toNat []) 2).tmod (IntKind.i64.wrap (fI (ps.getD t11.toNat []) 3 + 1)))))) (fI (ps.getD t11.toNat []) 3)).snd.snd.snd.fst (LTc.V.p9 os hs st tl th ms (fI (ps.getD t11.toNat []) 0) (fI (ps.getD t11.toNat []) 1) (bmin 2000 (bmax 0 (IntKind.i64.wrap (bmax 0 (IntKind.i64.wrap (LTc.V.w16 hl m27_2 m27_3 m27_4 (fI (ps.getD t11.toNat []) 0) (fI (ps.getD t11.toNat []) 1) - t10)) + (fI (ps.getD t11.toNat []) 2).tmod (IntKind.i64.wrap (fI (ps.getD t11.toNat []) 3 + 1)))))) (fI (ps.getD t11.toNat []) 3)).snd.snd.snd.snd.fst (LTc.V.p9 os hs st tl th ms (fI (ps.getD t11.toNat []) 0) (fI (ps.getD t11.toNat []) 1) (bmin 2000 (bmax 0 (IntKind.i64.wrap (bmax 0 (IntKind.i64.wrap (LTc.V.w16 hl m27_2 m27_3 m27_4 (fI (ps.getD t11.toNat []) 0) (fI (ps.getD t11.toNat []) 1) - t10)) + (fI (ps.getD t11.toNat []) 2).tmod (IntKind.i64.wrap (fI (ps.getD t11.toNat []) 3 + 1)))))) (fI (ps.getD t11.toNat []) 3)).snd.snd.snd.snd.snd.fst 5 10 0).snd.fst, (LTc.V.p17 (LTc.V.p9 os hs st tl th ms (fI (ps.getD t11.toNat []) 0) (fI (ps.getD t11.toNat []) 1) (bmin 2000 (bmax 0 (IntKind.i64.wrap (bmax 0 (IntKind.i64.wrap (LTc.V.w16 hl m27_2 m27_3 m27_4 (fI (ps.getD t11.toNat []) 0) (fI (ps.getD t11.toNat []) 1) - t10)) + (fI (ps.getD t11.toNat []) 2).tmod (IntKind.i64.wrap (fI (ps.getD t11.toNat []) 3 + 1)))))) (fI (ps.getD t11.toNat []) 3)).fst (LTc.V.p9 os hs st tl th ms (fI (ps.getD t11.toNat []) 0) (fI (ps.getD t11.toNat []) 1) (bmin 2000 (bmax 0 (IntKind.i64.wrap (bmax 0 (IntKind.i64.wrap (LTc.V.w16 hl m27_2 m27_3 m27_4 (fI (ps.getD t11.toNat []) 0) (fI (ps.getD t11.toNat []) 1) - t10)) + (fI (ps.getD t11.toNat []) 2).tmod (IntKind.i64.wrap (fI (ps.getD t11.toNat []) 3 + 1)))))) (fI (ps.getD t11.toNat []) 3)).snd.fst (LTc.V.p9 os hs st tl th ms (fI (ps.getD t11.toNat []) 0) (fI (ps.getD t11.toNat []) 1) (bmin 2000 (bmax 0 (IntKind.i64.wrap (bmax 0 (IntKind.i64.wrap (LTc.V.w16 hl m27_2 m27_3 m27_4 (fI (ps.getD t11.toNat []) 0) (fI (ps.getD t11.toNat []) 1) - t10)) + (fI (ps.getD t11.toNat []) 2).tmod (IntKind.i64.wrap (fI (ps.getD t11.toNat []) 3 + 1)))))) (fI (ps.getD t11.toNat []) 3)).snd.snd.fst (LTc.V.p9 os hs st tl th ms (fI (ps.getD t11.toNat []) 0) (fI (ps.getD t11.toNat []) 1) (bmin 2000 (bmax 0 (IntKind.i64.wrap (bmax 0 (IntKind.i64.wrap (LTc.V.w16 hl m27_2 m27_3 m27_4 (fI (ps.getD t11.toNat []) 0) (fI (ps.getD t11.toNat []) 1) - t10)) + (fI (ps.getD t11.toNat []) 2).tmod (IntKind.i64.wrap (fI (ps.getD t11.toNat []) 3 + 1)))))) (fI (ps.getD t11.toNat []) 3)).snd.snd.snd.fst (LTc.V.p9 os hs st tl th ms (fI (ps.getD t11.toNat []) 0) (fI (ps.getD t11.toNat []) 1) (bmin 2000 (bmax 0 (IntKind.i64.wrap (bmax 0 (IntKind.i64.wrap (LTc.V.w16 hl m27_2 m27_3 m27_4 (fI (ps.getD t11.toNat []) 0) (fI (ps.getD t11.toNat []) 1) - t10)) + (fI (ps.getD t11.toNat []) 2).tmod (IntKind.i64.wrap (fI (ps.getD t11.toNat []) 3 + 1)))))) (fI (ps.getD t11.toNat []) 3)).snd.snd.snd.snd.fst (LTc.V.p9 os hs st tl th ms (fI (ps.getD t11.toNat []) 0) (fI (ps.getD t11.toNat []) 1) (bmin 2000 (bmax 0 (IntKind.i64.wrap (bmax 0 (IntKind.i64.wrap (LTc.V.w16 hl m27_2 m27_3 m27_4 (fI (ps.getD t11.toNat []) 0) (fI (ps.getD t11.toNat []) 1) - t10)) + (fI (ps.getD t11.toNat []) 2).tmod (IntKind.i64.wrap (fI (ps.getD t11.toNat []) 3 + 1)))))) (fI (ps.getD t11.toNat []) 3)).snd.snd.snd.snd.snd.fst 5 10 0).snd.snd.fst, (LTc.V.p17 (LTc.V.p9 os hs st tl th ms (fI (ps.getD t11.toNat []) 0) (fI (ps.getD t11.toNat []) 1) (bmin 2000 (bmax 0 (IntKind.i64.wrap (bmax 0 (IntKind.i64.wrap (LTc.V.w16 hl m27_2 m27_3 m27_4 (fI (ps.getD t11.toNat []) 0) (fI (ps.getD t11.toNat []) 1) - t10)) + (fI (ps.getD t11.toNat []) 2).tmod (IntKind.i64.wrap (fI (ps.getD t11.toNat []) 3 + 1)))))) (fI (ps.getD t11.toNat []) 3)).fst (LTc.V.p9 os hs st tl th ms (fI (ps.getD t11.toNat []) 0) (fI (ps.getD t11.toNat []) 1) (bmin 2000 (bmax 0 (IntKind.i64.wrap (bmax 0 (IntKind.i64.wrap (LTc.V.w16 hl m27_2 m27_3 m27_4 (fI (ps.getD t11.toNat []) 0) (fI (ps.getD t11.toNat []) 1) - t10)) + (fI (ps.getD t11.toNat []) 2).tmod (IntKind.i64.wrap (fI (ps.getD t11.toNat []) 3 + 1)))))) (fI (ps.getD t11.toNat []) 3)).snd.fst (LTc.V.p9 os hs st tl th ms (fI (ps.getD t11.toNat []) 0) (fI (ps.getD t11.toNat []) 1) (bmin 2000 (bmax 0 (IntKind.i64.wrap (bmax 0 (IntKind.i64.wrap (LTc.V.w16 hl m27_2 m27_3 m27_4 (fI (ps.getD t11.toNat []) 0) (fI (ps.getD t11.toNat []) 1) - t10)) + (fI (ps.getD t11.toNat []) 2).tmod (IntKind.i64.wrap (fI (ps.getD t11.toNat []) 3 + 1)))))) (fI (ps.getD t11.toNat []) 3)).snd.snd.fst (LTc.V.p9 os hs st tl th ms (fI (ps.getD t11.toNat []) 0) (fI (ps.getD t11.toNat []) 1) (bmin 2000 (bmax 0 (IntKind.i64.wrap (bmax 0 (IntKind.i64.wrap (LTc.V.w16 hl m27_2 m27_3 m27_4 (fI (ps.getD t11.toNat []) 0) (fI (ps.getD t11.toNat []) 1) - t10)) + (fI (ps.getD t11.toNat []) 2).tmod (IntKind.i64.wrap (fI (ps.getD t11.toNat []) 3 + 1)))))) (fI (ps.getD t11.toNat []) 3)).snd.snd.snd.fst (LTc.V.p9 os hs st tl th ms (fI (ps.getD t11.toNat []) 0) (fI (ps.getD t11.toNat []) 1) (bmin 2000 (bmax 0 (IntKind.i64.wrap (bmax 0 (IntKind.i64.wrap (LTc.V.w16 hl m27_2 m27_3 m27_4 (fI (ps.getD t11.toNat []) 0) (fI (ps.getD t11.toNat []) 1) - t10)) + (fI (ps.getD t11.toNat []) 2).tmod (IntKind.i64.wrap (fI (ps.getD t11.toNat []) 3 + 1)))))) (fI (ps.getD t11.toNat []) 3)).snd.snd.snd.snd.fst (LTc.V.p9 os hs st tl th ms (fI (ps.getD t11.toNat []) 0) (fI (ps.getD t11.toNat []) 1) (bmin 2000 (bmax 0 (IntKind.i64.wrap (bmax 0 (IntKind.i64.wrap (LTc.V.w16 hl m27_2 m27_3 m27_4 (fI (ps.getD t11.toNat []) 0) (fI (ps.getD t11.toNat []) 1) - t10)) + (fI (ps.getD t11.toNat []) 2).tmod (IntKind.i64.wrap (fI (ps.getD t11.toNat []) 3 + 1)))))) (fI (ps.getD t11.toNat []) 3)).snd.snd.snd.snd.snd.fst 5 10 0).snd.snd.snd.fst, (LTc.V.p17 (LTc.V.p9 os hs st tl th ms (fI (ps.getD t11.toNat []) 0) (fI (ps.getD t11.toNat []) 1) (bmin 2000 (bmax 0 (IntKind.i64.wrap (bmax 0 (IntKind.i64.wrap (LTc.V.w16 hl m27_2 m27_3 m27_4 (fI (ps.getD t11.toNat []) 0) (fI (ps.getD t11.toNat []) 1) - t10)) + (fI (ps.getD t11.toNat []) 2).tmod (IntKind.i64.wrap (fI (ps.getD t11.toNat []) 3 + 1)))))) (fI (ps.getD t11.toNat []) 3)).fst (LTc.V.p9 os hs st tl th ms (fI (ps.getD t11.toNat []) 0) (fI (ps.getD t11.toNat []) 1) (bmin 2000 (bmax 0 (IntKind.i64.wrap (bmax 0 (IntKind.i64.wrap (LTc.V.w16 hl m27_2 m27_3 m27_4 (fI (ps.getD t11.toNat []) 0) (fI (ps.getD t11.toNat []) 1) - t10)) + (fI (ps.getD t11.toNat []) 2).tmod (IntKind.i64.wrap (fI (ps.getD t11.toNat []) 3 + 1)))))) (fI (ps.getD t11.toNat []) 3)).snd.fst (LTc.V.p9 os hs st tl th ms (fI (ps.getD t11.toNat []) 0) (fI (ps.getD t11.toNat []) 1) (bmin 2000 (bmax 0 (IntKind.i64.wrap (bmax 0 (IntKind.i64.wrap (LTc.V.w16 hl m27_2 m27_3 m27_4 (fI (ps.getD t11.toNat []) 0) (fI (ps.getD t11.toNat []) 1) - t10)) + (fI (ps.getD t11.toNat []) 2).tmod (IntKind.i64.wrap (fI (ps.getD t11.toNat []) 3 + 1)))))) (fI (ps.getD t11.toNat []) 3)).snd.snd.fst (LTc.V.p9 os hs st tl th ms (fI (ps.getD t11.toNat []) 0) (fI (ps.getD t11.toNat []) 1) (bmin 2000 (bmax 0 (IntKind.i64.wrap (bmax 0 (IntKind.i64.wrap (LTc.V.w16 hl m27_2 m27_3 m27_4 (fI (ps.getD t11.toNat []) 0) (fI (ps.getD t11.toNat []) 1) - t10)) + (fI (ps.getD t11.toNat []) 2).tmod (IntKind.i64.wrap (fI (ps.getD t11.toNat []) 3 + 1)))))) (fI (ps.getD t11.toNat []) 3)).snd.snd.snd.fst (LTc.V.p9 os hs st tl th ms (fI (ps.getD t11.toNat []) 0) (fI (ps.getD t11.toNat []) 1) (bmin 2000 (bmax 0 (IntKind.i64.wrap (bmax 0 (IntKind.i64.wrap (LTc.V.w16 hl m27_2 m27_3 m27_4 (fI (ps.getD t11.toNat []) 0) (fI (ps.getD t11.toNat []) 1) - t10)) + (fI (ps.getD t11.toNat []) 2).tmod (IntKind.i64.wrap (fI (ps.getD t11.toNat []) 3 + 1)))))) (fI (ps.getD t11.toNat []) 3)).snd.snd.snd.snd.fst (LTc.V.p9 os hs st tl th ms (fI (ps.getD t11.toNat []) 0) (fI (ps.getD t11.toNat []) 1) (bmin 2000 (bmax 0 (IntKind.i64.wrap (bmax 0 (IntKind.i64.wrap (LTc.V.w16 hl m27_2 m27_3 m27_4 (fI (ps.getD t11.toNat []) 0) (fI (ps.getD t11.toNat []) 1) - t10)) + (fI (ps.getD t11.toNat []) 2).tmod (IntKind.i64.wrap (fI (ps.getD t11.toNat []) 3 + 1)))))) (fI (ps.getD t11.toNat []) 3)).snd.snd.snd.snd.snd.fst 5 10 0).snd.snd.snd.snd.fst, (LTc.V.p17 (LTc.V.p9 os hs st tl th ms (fI (ps.getD t11.toNat []) 0) (fI (ps.getD t11.toNat []) 1) (bmin 2000 (bmax 0 (IntKind.i64.wrap (bmax 0 (IntKind.i64.wrap (LTc.V.w16 hl m27_2 m27_3 m27_4 (fI (ps.getD t11.toNat []) 0) (fI (ps.getD t11.toNat []) 1) - t10)) + (fI (ps.getD t11.toNat []) 2).tmod (IntKind.i64.wrap (fI (ps.getD t11.toNat []) 3 + 1)))))) (fI (ps.getD t11.toNat []) 3)).fst (LTc.V.p9 os hs st tl th ms (fI (ps.getD t11.toNat []) 0) (fI (ps.getD t11.toNat []) 1) (bmin 2000 (bmax 0 (IntKind.i64.wrap (bmax 0 (IntKind.i64.wrap (LTc.V.w16 hl m27_2 m27_3 m27_4 (fI (ps.getD t11.toNat []) 0) (fI (ps.getD t11.toNat []) 1) - t10)) + (fI (ps.getD t11.toNat []) 2).tmod (IntKind.i64.wrap (fI (ps.getD t11.toNat []) 3 + 1)))))) (fI (ps.getD t11.toNat []) 3)).snd.fst (LTc.V.p9 os hs st tl th ms (fI (ps.getD t11.toNat []) 0) (fI (ps.getD t11.toNat []) 1) (bmin 2000 (bmax 0 (IntKind.i64.wrap (bmax 0 (IntKind.i64.wrap (LTc.V.w16 hl m27_2 m27_3 m27_4 (fI (ps.getD t11.toNat []) 0) (fI (ps.getD t11.toNat []) 1) - t10)) + (fI (ps.getD t11.toNat []) 2).tmod (IntKind.i64.wrap (fI (ps.getD t11.toNat []) 3 + 1)))))) (fI (ps.getD t11.toNat []) 3)).snd.snd.fst (LTc.V.p9 os hs st tl th ms (fI (ps.getD t11.toNat []) 0) (fI (ps.getD t11.toNat []) 1) (bmin 2000 (bmax 0 (IntKind.i64.wrap (bmax 0 (IntKind.i64.wrap (LTc.V.w16 hl m27_2 m27_3 m27_4 (fI (ps.getD t11.toNat []) 0) (fI (ps.getD t11.toNat []) 1) - t10)) + (fI (ps.getD t11.toNat []) 2).tmod (IntKind.i64.wrap (fI (ps.getD t11.toNat []) 3 + 1)))))) (fI (ps.getD t11.toNat []) 3)).snd.snd.snd.fst (LTc.V.p9 os hs st tl th ms (fI (ps.getD t11.toNat []) 0) (fI (ps.getD t11.toNat []) 1) (bmin 2000 (bmax 0 (IntKind.i64.wrap (bmax 0 (IntKind.i64.wrap (LTc.V.w16 hl m27_2 m27_3 m27_4 (fI (ps.getD t11.toNat []) 0) (fI (ps.getD t11.toNat []) 1) - t10)) + (fI (ps.getD t11.toNat []) 2).tmod (IntKind.i64.wrap (fI (ps.getD t11.toNat []) 3 + 1)))))) (fI (ps.getD t11.toNat []) 3)).snd.snd.snd.snd.fst (LTc.V.p9 os hs st tl th ms (fI (ps.getD t11.toNat []) 0) (fI (ps.getD t11.toNat []) 1) (bmin 2000 (bmax 0 (IntKind.i64.wrap (bmax 0 (IntKind.i64.wrap (LTc.V.w16 hl m27_2 m27_3 m27_4 (fI (ps.getD t11.toNat []) 0) (fI (ps.getD t11.toNat []) 1) - t10)) + (fI (ps.getD t11.toNat []) 2).tmod (IntKind.i64.wrap (fI (ps.getD t11.toNat []) 3 + 1)))))) (fI (ps.getD t11.toNat []) 3)).snd.snd.snd.snd.snd.fst 5 10 0).snd.snd.snd.snd.snd.fst⟩)) (.bad)) (.go ⟨t10, IntKind.i64.wrap (t11 + 1), (LTc.V.p9 os hs st tl th ms (fI (ps.getD t11.toNat []) 0) (fI (ps.getD t11.toNat []) 1) (bmin 2000 (bmax 0 (IntKind.i64.wrap (bmax 0 (IntKind.i64.wrap (LTc.V.w16 hl m27_2 m27_3 m27_4 (fI (ps.getD t11.toNat []) 0) (fI (ps.getD t11.toNat []) 1) - t10)) + (fI (ps.getD t11.toNat []) 2).tmod (IntKind.i64.wrap (fI (ps.getD t11.toNat []) 3 + 1)))))) (fI (ps.getD t11.toNat []) 3)).fst, (LTc.V.p9 os hs st tl th ms (fI (ps.getD t11.toNat []) 0) (fI (ps.getD t11.toNat []) 1) (bmin 2000 (bmax 0 (IntKind.i64.wrap (bmax 0 (IntKind.i64.wrap (LTc.V.w16 hl m27_2 m27_3 m27_4 (fI (ps.getD t11.toNat []) 0) (fI (ps.getD t11.toNat []) 1) - t10)) + (fI (ps.getD t11.toNat []) 2).tmod (IntKind.i64.wrap (fI (ps.getD t11.toNat []) 3 + 1)))))) (fI (ps.getD t11.toNat []) 3)).snd.fst, (LTc.V.p9 os hs st tl th ms (fI (ps.getD t11.toNat []) 0) (fI (ps.getD t11.toNat []) 1) (bmin 2000 (bmax 0 (IntKind.i64.wrap (bmax 0 (IntKind.i64.wrap (LTc.V.w16 hl m27_2 m27_3 m27_4 (fI (ps.getD t11.toNat []) 0) (fI (ps.getD t11.toNat []) 1) - t10)) + (fI (ps.getD t11.toNat []) 2).tmod (IntKind.i64.wrap (fI (ps.getD t11.toNat []) 3 + 1)))))) (fI (ps.getD t11.toNat []) 3)).snd.snd.fst, (LTc.V.p9 os hs st tl th ms (fI (ps.getD t11.toNat []) 0) (fI (ps.getD t11.toNat []) 1) (bmin 2000 (bmax 0 (IntKind.i64.wrap (bmax 0 (IntKind.i64.wrap (LTc.V.w16 hl m27_2 m27_3 m27_4 (fI (ps.getD t11.toNat []) 0) (fI (ps.getD t11.toNat []) 1) - t10)) + (fI (ps.getD t11.toNat []) 2).tmod (IntKind.i64.wrap (fI (ps.getD t11.toNat []) 3 + 1)))))) (fI (ps.getD t11.toNat []) 3)).snd.snd.snd.fst, (LTc.V.p9 os hs st tl th ms (fI (ps.getD t11.toNat []) 0) (fI (ps.getD t11.toNat []) 1) (bmin 2000 (bmax 0 (IntKind.i64.wrap (bmax 0 (IntKind.i64.wrap (LTc.V.w16 hl m27_2 m27_3 m27_4 (fI (ps.getD t11.toNat []) 0) (fI (ps.getD t11.toNat []) 1) - t10)) + (fI (ps.getD t11.toNat []) 2).tmod (IntKind.i64.wrap (fI (ps.getD t11.toNat []) 3 + 1)))))) (fI (ps.getD t11.toNat []) 3)).snd.snd.snd.snd.fst, (LTc.V.p9 os hs st tl th ms (fI (ps.getD t11.toNat []) 0) (fI (ps.getD t11.toNat []) 1) (bmin 2000 (bmax 0 (IntKind.i64.wrap (bmax 0 (IntKind.i64.wrap (LTc.V.w16 hl m27_2 m27_3 m27_4 (fI (ps.getD t11.toNat []) 0) (fI (ps.getD t11.toNat []) 1) - t10)) + (fI (ps.getD t11.toNat []) 2).tmod (IntKind.i64.wrap (fI (ps.getD t11.toNat []) 3 + 1)))))) (fI (ps.getD t11.toNat []) 3)).snd.snd.snd.snd.snd.fst⟩))))) (.bad))) (.bad)))))))) (.bad)) (.out (.x1 t10 t11 os hs st tl th ms))
noncomputable def o6a_0 (hl ps : List (List AV)) (u v : Int) (t8 : Bool) (m27_0 m27_1 : List (List AV)) (m27_2 m27_3 m27_4 : Int) (m27_5 : List (List AV)) (t8' : Bool) (t10 t11 : Int) (m0_0 m0_1 : List (List AV)) (m0_2 m0_3 m0_4 : Int) (m0_5 : List (List AV)) : St :=
  { t := [(1, .rs 76 hl), (2, .rs 43 ps), (4, .p 0 0 0), (7, .rp [.int .i64, .int .i64] [.i .i64 u, .i .i64 v] 0), (8, .b t8'), (9, .p 27 0 0), (10, .i .i64 t10), (11, .i .i64 t11)], m := [(0, .row 30 [[.rs 32 m0_0, .rs 55 m0_1, .i .i64 m0_2, .i .i64 m0_3, .i .i64 m0_4, .rs 67 m0_5]]), (1, .dead), (2, .dead), (3, .dead), (4, .dead), (5, .dead), (6, .dead), (7, .dead), (8, .dead), (9, .dead), (10, .dead), (11, .dead), (12, .dead), (13, .dead), (14, .dead), (15, .dead), (16, .dead), (17, .dead), (18, .dead), (19, .dead), (20, .dead), (21, .dead), (22, .dead), (23, .dead), (24, .dead), (25, .dead), (26, .dead), (27, .row 30 [[.rs 32 m27_0, .rs 55 m27_1, .i .i64 m27_2, .i .i64 m27_3, .i .i64 m27_4, .rs 67 m27_5]])], nx := 28, nt := 186 }
noncomputable def o6a_1 (hl ps : List (List AV)) (u v : Int) (t8 : Bool) (m27_0 m27_1 : List (List AV)) (m27_2 m27_3 m27_4 : Int) (m27_5 : List (List AV)) (t10 t11 : Int) (m0_0 m0_1 : List (List AV)) (m0_2 m0_3 m0_4 : Int) (m0_5 : List (List AV)) : St :=
  { t := [(1, .rs 76 hl), (2, .rs 43 ps), (4, .p 0 0 0), (7, .rp [.int .i64, .int .i64] [.i .i64 u, .i .i64 v] 0), (8, .b t8), (9, .p 27 0 0), (10, .i .i64 t10), (11, .i .i64 t11)], m := [(0, .row 30 [[.rs 32 m0_0, .rs 55 m0_1, .i .i64 m0_2, .i .i64 m0_3, .i .i64 m0_4, .rs 67 m0_5]]), (1, .dead), (2, .dead), (3, .dead), (4, .dead), (5, .dead), (6, .dead), (7, .dead), (8, .dead), (9, .dead), (10, .dead), (11, .dead), (12, .dead), (13, .dead), (14, .dead), (15, .dead), (16, .dead), (17, .dead), (18, .dead), (19, .dead), (20, .dead), (21, .dead), (22, .dead), (23, .dead), (24, .dead), (25, .dead), (26, .dead), (27, .row 30 [[.rs 32 m27_0, .rs 55 m27_1, .i .i64 m27_2, .i .i64 m27_3, .i .i64 m27_4, .rs 67 m27_5]])], nx := 28, nt := 186 }
noncomputable def ou6a (hl ps : List (List AV)) (u v : Int) (t8 : Bool) (m27_0 m27_1 : List (List AV)) (m27_2 m27_3 m27_4 : Int) (m27_5 : List (List AV)) : T6a → Ex × St
  | .x0 t8' t10 t11 m0_0 m0_1 m0_2 m0_3 m0_4 m0_5 => (.ret, o6a_0 hl ps u v t8 m27_0 m27_1 m27_2 m27_3 m27_4 m27_5 t8' t10 t11 m0_0 m0_1 m0_2 m0_3 m0_4 m0_5)
  | .x1 t10 t11 m0_0 m0_1 m0_2 m0_3 m0_4 m0_5 => (.ext 0, o6a_1 hl ps u v t8 m27_0 m27_1 m27_2 m27_3 m27_4 m27_5 t10 t11 m0_0 m0_1 m0_2 m0_3 m0_4 m0_5)
noncomputable def r6a (hl ps : List (List AV)) (u v : Int) (t8 : Bool) (m27_0 m27_1 : List (List AV)) (m27_2 m27_3 m27_4 : Int) (m27_5 : List (List AV)) (t10 t11 : Int) (os hs : List (List AV)) (st tl th : Int) (ms : List (List AV)) : Option T6a := run (fun x => stp6a hl ps u v t8 m27_0 m27_1 m27_2 m27_3 m27_4 m27_5 x.t10 x.t11 x.os x.hs x.st x.tl x.th x.ms) (⟨t10, t11, os, hs, st, tl, th, ms⟩ : S6a)
noncomputable def i6a_0 (hl ps : List (List AV)) (u v : Int) (t8 : Bool) (m27_0 m27_1 : List (List AV)) (m27_2 m27_3 m27_4 : Int) (m27_5 : List (List AV)) (t10 t11 : Int) (os hs : List (List AV)) (st tl th : Int) (ms : List (List AV)) : Bool := match r6a hl ps u v t8 m27_0 m27_1 m27_2 m27_3 m27_4 m27_5 t10 t11 os hs st tl th ms with
  | some (.x0 _ _ _ _ _ _ _ _ _) => true
  | _ => false
noncomputable def v6a_0_t8' (hl ps : List (List AV)) (u v : Int) (t8 : Bool) (m27_0 m27_1 : List (List AV)) (m27_2 m27_3 m27_4 : Int) (m27_5 : List (List AV)) (t10 t11 : Int) (os hs : List (List AV)) (st tl th : Int) (ms : List (List AV)) : Bool := match r6a hl ps u v t8 m27_0 m27_1 m27_2 m27_3 m27_4 m27_5 t10 t11 os hs st tl th ms with
  | some (.x0 t8' _ _ _ _ _ _ _ _) => t8'
  | _ => default
noncomputable def v6a_0_t10 (hl ps : List (List AV)) (u v : Int) (t8 : Bool) (m27_0 m27_1 : List (List AV)) (m27_2 m27_3 m27_4 : Int) (m27_5 : List (List AV)) (t10 t11 : Int) (os hs : List (List AV)) (st tl th : Int) (ms : List (List AV)) : Int := match r6a hl ps u v t8 m27_0 m27_1 m27_2 m27_3 m27_4 m27_5 t10 t11 os hs st tl th ms with
  | some (.x0 _ t10 _ _ _ _ _ _ _) => t10
  | _ => default
noncomputable def v6a_0_t11 (hl ps : List (List AV)) (u v : Int) (t8 : Bool) (m27_0 m27_1 : List (List AV)) (m27_2 m27_3 m27_4 : Int) (m27_5 : List (List AV)) (t10 t11 : Int) (os hs : List (List AV)) (st tl th : Int) (ms : List (List AV)) : Int := match r6a hl ps u v t8 m27_0 m27_1 m27_2 m27_3 m27_4 m27_5 t10 t11 os hs st tl th ms with
  | some (.x0 _ _ t11 _ _ _ _ _ _) => t11
  | _ => default
noncomputable def v6a_0_m0_0 (hl ps : List (List AV)) (u v : Int) (t8 : Bool) (m27_0 m27_1 : List (List AV)) (m27_2 m27_3 m27_4 : Int) (m27_5 : List (List AV)) (t10 t11 : Int) (os hs : List (List AV)) (st tl th : Int) (ms : List (List AV)) : List (List AV) := match r6a hl ps u v t8 m27_0 m27_1 m27_2 m27_3 m27_4 m27_5 t10 t11 os hs st tl th ms with
  | some (.x0 _ _ _ m0_0 _ _ _ _ _) => m0_0
  | _ => default
noncomputable def v6a_0_m0_1 (hl ps : List (List AV)) (u v : Int) (t8 : Bool) (m27_0 m27_1 : List (List AV)) (m27_2 m27_3 m27_4 : Int) (m27_5 : List (List AV)) (t10 t11 : Int) (os hs : List (List AV)) (st tl th : Int) (ms : List (List AV)) : List (List AV) := match r6a hl ps u v t8 m27_0 m27_1 m27_2 m27_3 m27_4 m27_5 t10 t11 os hs st tl th ms with
  | some (.x0 _ _ _ _ m0_1 _ _ _ _) => m0_1
  | _ => default
noncomputable def v6a_0_m0_2 (hl ps : List (List AV)) (u v : Int) (t8 : Bool) (m27_0 m27_1 : List (List AV)) (m27_2 m27_3 m27_4 : Int) (m27_5 : List (List AV)) (t10 t11 : Int) (os hs : List (List AV)) (st tl th : Int) (ms : List (List AV)) : Int := match r6a hl ps u v t8 m27_0 m27_1 m27_2 m27_3 m27_4 m27_5 t10 t11 os hs st tl th ms with
  | some (.x0 _ _ _ _ _ m0_2 _ _ _) => m0_2
  | _ => default
noncomputable def v6a_0_m0_3 (hl ps : List (List AV)) (u v : Int) (t8 : Bool) (m27_0 m27_1 : List (List AV)) (m27_2 m27_3 m27_4 : Int) (m27_5 : List (List AV)) (t10 t11 : Int) (os hs : List (List AV)) (st tl th : Int) (ms : List (List AV)) : Int := match r6a hl ps u v t8 m27_0 m27_1 m27_2 m27_3 m27_4 m27_5 t10 t11 os hs st tl th ms with
  | some (.x0 _ _ _ _ _ _ m0_3 _ _) => m0_3
  | _ => default
noncomputable def v6a_0_m0_4 (hl ps : List (List AV)) (u v : Int) (t8 : Bool) (m27_0 m27_1 : List (List AV)) (m27_2 m27_3 m27_4 : Int) (m27_5 : List (List AV)) (t10 t11 : Int) (os hs : List (List AV)) (st tl th : Int) (ms : List (List AV)) : Int := match r6a hl ps u v t8 m27_0 m27_1 m27_2 m27_3 m27_4 m27_5 t10 t11 os hs st tl th ms with
  | some (.x0 _ _ _ _ _ _ _ m0_4 _) => m0_4
  | _ => default
noncomputable def v6a_0_m0_5 (hl ps : List (List AV)) (u v : Int) (t8 : Bool) (m27_0 m27_1 : List (List AV)) (m27_2 m27_3 m27_4 : Int) (m27_5 : List (List AV)) (t10 t11 : Int) (os hs : List (List AV)) (st tl th : Int) (ms : List (List AV)) : List (List AV) := match r6a hl ps u v t8 m27_0 m27_1 m27_2 m27_3 m27_4 m27_5 t10 t11 os hs st tl th ms with
  | some (.x0 _ _ _ _ _ _ _ _ m0_5) => m0_5
  | _ => default
noncomputable def i6a_1 (hl ps : List (List AV)) (u v : Int) (t8 : Bool) (m27_0 m27_1 : List (List AV)) (m27_2 m27_3 m27_4 : Int) (m27_5 : List (List AV)) (t10 t11 : Int) (os hs : List (List AV)) (st tl th : Int) (ms : List (List AV)) : Bool := match r6a hl ps u v t8 m27_0 m27_1 m27_2 m27_3 m27_4 m27_5 t10 t11 os hs st tl th ms with
  | some (.x1 _ _ _ _ _ _ _ _) => true
  | _ => false
noncomputable def v6a_1_t10 (hl ps : List (List AV)) (u v : Int) (t8 : Bool) (m27_0 m27_1 : List (List AV)) (m27_2 m27_3 m27_4 : Int) (m27_5 : List (List AV)) (t10 t11 : Int) (os hs : List (List AV)) (st tl th : Int) (ms : List (List AV)) : Int := match r6a hl ps u v t8 m27_0 m27_1 m27_2 m27_3 m27_4 m27_5 t10 t11 os hs st tl th ms with
  | some (.x1 t10 _ _ _ _ _ _ _) => t10
  | _ => default
noncomputable def v6a_1_t11 (hl ps : List (List AV)) (u v : Int) (t8 : Bool) (m27_0 m27_1 : List (List AV)) (m27_2 m27_3 m27_4 : Int) (m27_5 : List (List AV)) (t10 t11 : Int) (os hs : List (List AV)) (st tl th : Int) (ms : List (List AV)) : Int := match r6a hl ps u v t8 m27_0 m27_1 m27_2 m27_3 m27_4 m27_5 t10 t11 os hs st tl th ms with
  | some (.x1 _ t11 _ _ _ _ _ _) => t11
  | _ => default
noncomputable def v6a_1_m0_0 (hl ps : List (List AV)) (u v : Int) (t8 : Bool) (m27_0 m27_1 : List (List AV)) (m27_2 m27_3 m27_4 : Int) (m27_5 : List (List AV)) (t10 t11 : Int) (os hs : List (List AV)) (st tl th : Int) (ms : List (List AV)) : List (List AV) := match r6a hl ps u v t8 m27_0 m27_1 m27_2 m27_3 m27_4 m27_5 t10 t11 os hs st tl th ms with
  | some (.x1 _ _ m0_0 _ _ _ _ _) => m0_0
  | _ => default
noncomputable def v6a_1_m0_1 (hl ps : List (List AV)) (u v : Int) (t8 : Bool) (m27_0 m27_1 : List (List AV)) (m27_2 m27_3 m27_4 : Int) (m27_5 : List (List AV)) (t10 t11 : Int) (os hs : List (List AV)) (st tl th : Int) (ms : List (List AV)) : List (List AV) := match r6a hl ps u v t8 m27_0 m27_1 m27_2 m27_3 m27_4 m27_5 t10 t11 os hs st tl th ms with
  | some (.x1 _ _ _ m0_1 _ _ _ _) => m0_1
  | _ => default
noncomputable def v6a_1_m0_2 (hl ps : List (List AV)) (u v : Int) (t8 : Bool) (m27_0 m27_1 : List (List AV)) (m27_2 m27_3 m27_4 : Int) (m27_5 : List (List AV)) (t10 t11 : Int) (os hs : List (List AV)) (st tl th : Int) (ms : List (List AV)) : Int := match r6a hl ps u v t8 m27_0 m27_1 m27_2 m27_3 m27_4 m27_5 t10 t11 os hs st tl th ms with
  | some (.x1 _ _ _ _ m0_2 _ _ _) => m0_2
  | _ => default
noncomputable def v6a_1_m0_3 (hl ps : List (List AV)) (u v : Int) (t8 : Bool) (m27_0 m27_1 : List (List AV)) (m27_2 m27_3 m27_4 : Int) (m27_5 : List (List AV)) (t10 t11 : Int) (os hs : List (List AV)) (st tl th : Int) (ms : List (List AV)) : Int := match r6a hl ps u v t8 m27_0 m27_1 m27_2 m27_3 m27_4 m27_5 t10 t11 os hs st tl th ms with
  | some (.x1 _ _ _ _ _ m0_3 _ _) => m0_3
  | _ => default
noncomputable def v6a_1_m0_4 (hl ps : List (List AV)) (u v : Int) (t8 : Bool) (m27_0 m27_1 : List (List AV)) (m27_2 m27_3 m27_4 : Int) (m27_5 : List (List AV)) (t10 t11 : Int) (os hs : List (List AV)) (st tl th : Int) (ms : List (List AV)) : Int := match r6a hl ps u v t8 m27_0 m27_1 m27_2 m27_3 m27_4 m27_5 t10 t11 os hs st tl th ms with
  | some (.x1 _ _ _ _ _ _ m0_4 _) => m0_4
  | _ => default
noncomputable def v6a_1_m0_5 (hl ps : List (List AV)) (u v : Int) (t8 : Bool) (m27_0 m27_1 : List (List AV)) (m27_2 m27_3 m27_4 : Int) (m27_5 : List (List AV)) (t10 t11 : Int) (os hs : List (List AV)) (st tl th : Int) (ms : List (List AV)) : List (List AV) := match r6a hl ps u v t8 m27_0 m27_1 m27_2 m27_3 m27_4 m27_5 t10 t11 os hs st tl th ms with
  | some (.x1 _ _ _ _ _ _ _ m0_5) => m0_5
  | _ => default
noncomputable def q6a (hl ps : List (List AV)) (u v : Int) (t8 : Bool) (t10 t11 : Int) (os hs : List (List AV)) (st tl th : Int) (ms m27_0 m27_1 : List (List AV)) (m27_2 m27_3 m27_4 : Int) (m27_5 : List (List AV)) : List (Bool × Ex × St) := [(i6a_0 hl ps u v t8 m27_0 m27_1 m27_2 m27_3 m27_4 m27_5 t10 t11 os hs st tl th ms, .ret, o6a_0 hl ps u v t8 m27_0 m27_1 m27_2 m27_3 m27_4 m27_5 (v6a_0_t8' hl ps u v t8 m27_0 m27_1 m27_2 m27_3 m27_4 m27_5 t10 t11 os hs st tl th ms) (v6a_0_t10 hl ps u v t8 m27_0 m27_1 m27_2 m27_3 m27_4 m27_5 t10 t11 os hs st tl th ms) (v6a_0_t11 hl ps u v t8 m27_0 m27_1 m27_2 m27_3 m27_4 m27_5 t10 t11 os hs st tl th ms) (v6a_0_m0_0 hl ps u v t8 m27_0 m27_1 m27_2 m27_3 m27_4 m27_5 t10 t11 os hs st tl th ms) (v6a_0_m0_1 hl ps u v t8 m27_0 m27_1 m27_2 m27_3 m27_4 m27_5 t10 t11 os hs st tl th ms) (v6a_0_m0_2 hl ps u v t8 m27_0 m27_1 m27_2 m27_3 m27_4 m27_5 t10 t11 os hs st tl th ms) (v6a_0_m0_3 hl ps u v t8 m27_0 m27_1 m27_2 m27_3 m27_4 m27_5 t10 t11 os hs st tl th ms) (v6a_0_m0_4 hl ps u v t8 m27_0 m27_1 m27_2 m27_3 m27_4 m27_5 t10 t11 os hs st tl th ms) (v6a_0_m0_5 hl ps u v t8 m27_0 m27_1 m27_2 m27_3 m27_4 m27_5 t10 t11 os hs st tl th ms)), (i6a_1 hl ps u v t8 m27_0 m27_1 m27_2 m27_3 m27_4 m27_5 t10 t11 os hs st tl th ms, .ext 0, o6a_1 hl ps u v t8 m27_0 m27_1 m27_2 m27_3 m27_4 m27_5 (v6a_1_t10 hl ps u v t8 m27_0 m27_1 m27_2 m27_3 m27_4 m27_5 t10 t11 os hs st tl th ms) (v6a_1_t11 hl ps u v t8 m27_0 m27_1 m27_2 m27_3 m27_4 m27_5 t10 t11 os hs st tl th ms) (v6a_1_m0_0 hl ps u v t8 m27_0 m27_1 m27_2 m27_3 m27_4 m27_5 t10 t11 os hs st tl th ms) (v6a_1_m0_1 hl ps u v t8 m27_0 m27_1 m27_2 m27_3 m27_4 m27_5 t10 t11 os hs st tl th ms) (v6a_1_m0_2 hl ps u v t8 m27_0 m27_1 m27_2 m27_3 m27_4 m27_5 t10 t11 os hs st tl th ms) (v6a_1_m0_3 hl ps u v t8 m27_0 m27_1 m27_2 m27_3 m27_4 m27_5 t10 t11 os hs st tl th ms) (v6a_1_m0_4 hl ps u v t8 m27_0 m27_1 m27_2 m27_3 m27_4 m27_5 t10 t11 os hs st tl th ms) (v6a_1_m0_5 hl ps u v t8 m27_0 m27_1 m27_2 m27_3 m27_4 m27_5 t10 t11 os hs st tl th ms))]
noncomputable def l6a (st : St) : Option (List (Bool × Ex × St)) := qget [.rs 76, .rs 43, .p 0 0 0, .rp [.int .i64, .int .i64] [.i .i64, .i .i64] 0, .b, .p 27 0 0, .i .i64, .i .i64] [(0, .row 30 [.l [.rs 32, .rs 55, .i .i64, .i .i64, .i .i64, .rs 67]]), (1, .dead), (2, .dead), (3, .dead), (4, .dead), (5, .dead), (6, .dead), (7, .dead), (8, .dead), (9, .dead), (10, .dead), (11, .dead), (12, .dead), (13, .dead), (14, .dead), (15, .dead), (16, .dead), (17, .dead), (18, .dead), (19, .dead), (20, .dead), (21, .dead), (22, .dead), (23, .dead), (24, .dead), (25, .dead), (26, .dead), (27, .row 30 [.l [.rs 32, .rs 55, .i .i64, .i .i64, .i .i64, .rs 67]])] 28 186 (normW Try.prog [(1, none), (2, none), (4, none), (7, none), (8, none), (9, none), (10, none), (11, none)] 28 st) fun ls => q6a (lLL ls 0) (lLL ls 1) (lI ls 2) (lI ls 3) (lB ls 4) (lI ls 5) (lI ls 6) (lLL ls 7) (lLL ls 8) (lI ls 9) (lI ls 10) (lI ls 11) (lLL ls 12) (lLL ls 13) (lLL ls 14) (lI ls 15) (lI ls 16) (lI ls 17) (lLL ls 18)
noncomputable def L6 : LSpec := fun p st => match p with
  | [false, true, false, true, true, true] => l6a st
  | _ => none
theorem is6a_0 (hl ps : List (List AV)) (u v : Int) (t8 : Bool) (m27_0 m27_1 : List (List AV)) (m27_2 m27_3 m27_4 : Int) (m27_5 : List (List AV)) (t10 t11 : Int) (os hs : List (List AV)) (st tl th : Int) (ms : List (List AV)) (h : i6a_0 hl ps u v t8 m27_0 m27_1 m27_2 m27_3 m27_4 m27_5 t10 t11 os hs st tl th ms = true) : r6a hl ps u v t8 m27_0 m27_1 m27_2 m27_3 m27_4 m27_5 t10 t11 os hs st tl th ms = some (.x0 (v6a_0_t8' hl ps u v t8 m27_0 m27_1 m27_2 m27_3 m27_4 m27_5 t10 t11 os hs st tl th ms) (v6a_0_t10 hl ps u v t8 m27_0 m27_1 m27_2 m27_3 m27_4 m27_5 t10 t11 os hs st tl th ms) (v6a_0_t11 hl ps u v t8 m27_0 m27_1 m27_2 m27_3 m27_4 m27_5 t10 t11 os hs st tl th ms) (v6a_0_m0_0 hl ps u v t8 m27_0 m27_1 m27_2 m27_3 m27_4 m27_5 t10 t11 os hs st tl th ms) (v6a_0_m0_1 hl ps u v t8 m27_0 m27_1 m27_2 m27_3 m27_4 m27_5 t10 t11 os hs st tl th ms) (v6a_0_m0_2 hl ps u v t8 m27_0 m27_1 m27_2 m27_3 m27_4 m27_5 t10 t11 os hs st tl th ms) (v6a_0_m0_3 hl ps u v t8 m27_0 m27_1 m27_2 m27_3 m27_4 m27_5 t10 t11 os hs st tl th ms) (v6a_0_m0_4 hl ps u v t8 m27_0 m27_1 m27_2 m27_3 m27_4 m27_5 t10 t11 os hs st tl th ms) (v6a_0_m0_5 hl ps u v t8 m27_0 m27_1 m27_2 m27_3 m27_4 m27_5 t10 t11 os hs st tl th ms)) := by
  unfold i6a_0 at h
  unfold v6a_0_t8' v6a_0_t10 v6a_0_t11 v6a_0_m0_0 v6a_0_m0_1 v6a_0_m0_2 v6a_0_m0_3 v6a_0_m0_4 v6a_0_m0_5
  generalize r6a hl ps u v t8 m27_0 m27_1 m27_2 m27_3 m27_4 m27_5 t10 t11 os hs st tl th ms = r at h ⊢
  rcases r with _ | y
  · cases h
  · cases y <;> first | rfl | cases h
theorem is6a_1 (hl ps : List (List AV)) (u v : Int) (t8 : Bool) (m27_0 m27_1 : List (List AV)) (m27_2 m27_3 m27_4 : Int) (m27_5 : List (List AV)) (t10 t11 : Int) (os hs : List (List AV)) (st tl th : Int) (ms : List (List AV)) (h : i6a_1 hl ps u v t8 m27_0 m27_1 m27_2 m27_3 m27_4 m27_5 t10 t11 os hs st tl th ms = true) : r6a hl ps u v t8 m27_0 m27_1 m27_2 m27_3 m27_4 m27_5 t10 t11 os hs st tl th ms = some (.x1 (v6a_1_t10 hl ps u v t8 m27_0 m27_1 m27_2 m27_3 m27_4 m27_5 t10 t11 os hs st tl th ms) (v6a_1_t11 hl ps u v t8 m27_0 m27_1 m27_2 m27_3 m27_4 m27_5 t10 t11 os hs st tl th ms) (v6a_1_m0_0 hl ps u v t8 m27_0 m27_1 m27_2 m27_3 m27_4 m27_5 t10 t11 os hs st tl th ms) (v6a_1_m0_1 hl ps u v t8 m27_0 m27_1 m27_2 m27_3 m27_4 m27_5 t10 t11 os hs st tl th ms) (v6a_1_m0_2 hl ps u v t8 m27_0 m27_1 m27_2 m27_3 m27_4 m27_5 t10 t11 os hs st tl th ms) (v6a_1_m0_3 hl ps u v t8 m27_0 m27_1 m27_2 m27_3 m27_4 m27_5 t10 t11 os hs st tl th ms) (v6a_1_m0_4 hl ps u v t8 m27_0 m27_1 m27_2 m27_3 m27_4 m27_5 t10 t11 os hs st tl th ms) (v6a_1_m0_5 hl ps u v t8 m27_0 m27_1 m27_2 m27_3 m27_4 m27_5 t10 t11 os hs st tl th ms)) := by
  unfold i6a_1 at h
  unfold v6a_1_t10 v6a_1_t11 v6a_1_m0_0 v6a_1_m0_1 v6a_1_m0_2 v6a_1_m0_3 v6a_1_m0_4 v6a_1_m0_5
  generalize r6a hl ps u v t8 m27_0 m27_1 m27_2 m27_3 m27_4 m27_5 t10 t11 os hs st tl th ms = r at h ⊢
  rcases r with _ | y
  · cases h
  · cases y <;> first | rfl | cases h
theorem round6a (hl ps : List (List AV)) (u v : Int) (t8 : Bool) (t10 t11 : Int) (os hs : List (List AV)) (st tl th : Int) (ms m27_0 m27_1 : List (List AV)) (m27_2 m27_3 m27_4 : Int) (m27_5 : List (List AV)) : round Try.prog ST (ro 6) L6 lp6a [false, true, false, true, true, true] [(1, none), (2, none), (4, none), (7, none), (8, none), (9, none), (10, none), (11, none)] 28 (s6a hl ps u v t8 t10 t11 os hs st tl th ms m27_0 m27_1 m27_2 m27_3 m27_4 m27_5) =
    cond (decide (t11 < (↑ps.length : Int))) (cond (inb t11 ps.length) (cond (decide (fI (ps.getD t11.toNat []) 3 < 0)) (some (.ret, o6a_0 hl ps u v t8 m27_0 m27_1 m27_2 m27_3 m27_4 m27_5 true t10 t11 os hs st tl th ms)) (cond (decide (fI (ps.getD t11.toNat []) 3 > 100)) (some (.ret, o6a_0 hl ps u v t8 m27_0 m27_1 m27_2 m27_3 m27_4 m27_5 true t10 t11 os hs st tl th ms)) (cond (decide (fI (ps.getD t11.toNat []) 0 < -1000)) (some (.ret, o6a_0 hl ps u v t8 m27_0 m27_1 m27_2 m27_3 m27_4 m27_5 true t10 t11 os hs st tl th ms)) (cond (decide (fI (ps.getD t11.toNat []) 1 < -1000)) (some (.ret, o6a_0 hl ps u v t8 m27_0 m27_1 m27_2 m27_3 m27_4 m27_5 true t10 t11 os hs st tl th ms)) (cond (decide (fI (ps.getD t11.toNat []) 0 > 1000)) (some (.ret, o6a_0 hl ps u v t8 m27_0 m27_1 m27_2 m27_3 m27_4 m27_5 true t10 t11 os hs st tl th ms)) (cond (decide (fI (ps.getD t11.toNat []) 1 > 1000)) (some (.ret, o6a_0 hl ps u v t8 m27_0 m27_1 m27_2 m27_3 m27_4 m27_5 true t10 t11 os hs st tl th ms)) (cond (LTc.V.g16 hl m27_2 m27_3 m27_4 (fI (ps.getD t11.toNat []) 0) (fI (ps.getD t11.toNat []) 1)) (cond (decide (IntKind.i64.wrap (fI (ps.getD t11.toNat []) 3 + 1) = 0)) (none) (cond (LTc.V.g9 os hs st tl th ms (fI (ps.getD t11.toNat []) 0) (fI (ps.getD t11.toNat []) 1) (bmin 2000 (bmax 0 (IntKind.i64.wrap (bmax 0 (IntKind.i64.wrap (LTc.V.w16 hl m27_2 m27_3 m27_4 (fI (ps.getD t11.toNat []) 0) (fI (ps.getD t11.toNat []) 1) - t10)) + (fI (ps.getD t11.toNat []) 2).tmod (IntKind.i64.wrap (fI (ps.getD t11.toNat []) 3 + 1)))))) (fI (ps.getD t11.toNat []) 3)) (cond ((LTc.V.p9 os hs st tl th ms (fI (ps.getD t11.toNat []) 0) (fI (ps.getD t11.toNat []) 1) (bmin 2000 (bmax 0 (IntKind.i64.wrap (bmax 0 (IntKind.i64.wrap (LTc.V.w16 hl m27_2 m27_3 m27_4 (fI (ps.getD t11.toNat []) 0) (fI (ps.getD t11.toNat []) 1) - t10)) + (fI (ps.getD t11.toNat []) 2).tmod (IntKind.i64.wrap (fI (ps.getD t11.toNat []) 3 + 1)))))) (fI (ps.getD t11.toNat []) 3)).snd.snd.snd.snd.snd.snd == 7) (some (.nrm, s6a hl ps u v t8 t10 (IntKind.i64.wrap (t11 + 1)) os hs st tl th ms m27_0 m27_1 m27_2 m27_3 m27_4 m27_5)) (cond ((LTc.V.p9 os hs st tl th ms (fI (ps.getD t11.toNat []) 0) (fI (ps.getD t11.toNat []) 1) (bmin 2000 (bmax 0 (IntKind.i64.wrap (bmax 0 (IntKind.i64.wrap (LTc.V.w16 hl m27_2 m27_3 m27_4 (fI (ps.getD t11.toNat []) 0) (fI (ps.getD t11.toNat []) 1) - t10)) + (fI (ps.getD t11.toNat []) 2).tmod (IntKind.i64.wrap (fI (ps.getD t11.toNat []) 3 + 1)))))) (fI (ps.getD t11.toNat []) 3)).snd.snd.snd.snd.snd.snd == 3) (some (.nrm, s6a hl ps u v t8 t10 (IntKind.i64.wrap (t11 + 1)) os hs st tl th ms m27_0 m27_1 m27_2 m27_3 m27_4 m27_5)) (cond ((LTc.V.p9 os hs st tl th ms (fI (ps.getD t11.toNat []) 0) (fI (ps.getD t11.toNat []) 1) (bmin 2000 (bmax 0 (IntKind.i64.wrap (bmax 0 (IntKind.i64.wrap (LTc.V.w16 hl m27_2 m27_3 m27_4 (fI (ps.getD t11.toNat []) 0) (fI (ps.getD t11.toNat []) 1) - t10)) + (fI (ps.getD t11.toNat []) 2).tmod (IntKind.i64.wrap (fI (ps.getD t11.toNat []) 3 + 1)))))) (fI (ps.getD t11.toNat []) 3)).snd.snd.snd.snd.snd.snd != 0) (some (.ret, o6a_0 hl ps u v t8 m27_0 m27_1 m27_2 m27_3 m27_4 m27_5 false t10 t11 os hs st tl th ms)) (cond (t11.tmod 3 == 2) (cond (LTc.V.g17 (LTc.V.p9 os hs st tl th ms (fI (ps.getD t11.toNat []) 0) (fI (ps.getD t11.toNat []) 1) (bmin 2000 (bmax 0 (IntKind.i64.wrap (bmax 0 (IntKind.i64.wrap (LTc.V.w16 hl m27_2 m27_3 m27_4 (fI (ps.getD t11.toNat []) 0) (fI (ps.getD t11.toNat []) 1) - t10)) + (fI (ps.getD t11.toNat []) 2).tmod (IntKind.i64.wrap (fI (ps.getD t11.toNat []) 3 + 1)))))) (fI (ps.getD t11.toNat []) 3)).fst (LTc.V.p9 os hs st tl th ms (fI (ps.getD t11.toNat []) 0) (fI (ps.getD t11.toNat []) 1) (bmin 2000 (bmax 0 (IntKind.i64.wrap (bmax 0 (IntKind.i64.wrap (LTc.V.w16 hl m27_2 m27_3 m27_4 (fI (ps.getD t11.toNat []) 0) (fI (ps.getD t11.toNat []) 1) - t10)) + (fI (ps.getD t11.toNat []) 2).tmod (IntKind.i64.wrap (fI (ps.getD t11.toNat []) 3 + 1)))))) (fI (ps.getD t11.toNat []) 3)).snd.fst (LTc.V.p9 os hs st tl th ms (fI (ps.getD t11.toNat []) 0) (fI (ps.getD t11.toNat []) 1) (bmin 2000 (bmax 0 (IntKind.i64.wrap (bmax 0 (IntKind.i64.wrap (LTc.V.w16 hl m27_2 m27_3 m27_4 (fI (ps.getD t11.toNat []) 0) (fI (ps.getD t11.toNat []) 1) - t10)) + (fI (ps.getD t11.toNat []) 2).tmod (IntKind.i64.wrap (fI (ps.getD t11.toNat []) 3 + 1)))))) (fI (ps.getD t11.toNat []) 3)).snd.snd.fst (LTc.V.p9 os hs st tl th ms (fI (ps.getD t11.toNat []) 0) (fI (ps.getD t11.toNat []) 1) (bmin 2000 (bmax 0 (IntKind.i64.wrap (bmax 0 (IntKind.i64.wrap (LTc.V.w16 hl m27_2 m27_3 m27_4 (fI (ps.getD t11.toNat []) 0) (fI (ps.getD t11.toNat []) 1) - t10)) + (fI (ps.getD t11.toNat []) 2).tmod (IntKind.i64.wrap (fI (ps.getD t11.toNat []) 3 + 1)))))) (fI (ps.getD t11.toNat []) 3)).snd.snd.snd.fst (LTc.V.p9 os hs st tl th ms (fI (ps.getD t11.toNat []) 0) (fI (ps.getD t11.toNat []) 1) (bmin 2000 (bmax 0 (IntKind.i64.wrap (bmax 0 (IntKind.i64.wrap (LTc.V.w16 hl m27_2 m27_3 m27_4 (fI (ps.getD t11.toNat []) 0) (fI (ps.getD t11.toNat []) 1) - t10)) + (fI (ps.getD t11.toNat []) 2).tmod (IntKind.i64.wrap (fI (ps.getD t11.toNat []) 3 + 1)))))) (fI (ps.getD t11.toNat []) 3)).snd.snd.snd.snd.fst (LTc.V.p9 os hs st tl th ms (fI (ps.getD t11.toNat []) 0) (fI (ps.getD t11.toNat []) 1) (bmin 2000 (bmax 0 (IntKind.i64.wrap (bmax 0 (IntKind.i64.wrap (LTc.V.w16 hl m27_2 m27_3 m27_4 (fI (ps.getD t11.toNat []) 0) (fI (ps.getD t11.toNat []) 1) - t10)) + (fI (ps.getD t11.toNat []) 2).tmod (IntKind.i64.wrap (fI (ps.getD t11.toNat []) 3 + 1)))))) (fI (ps.getD t11.toNat []) 3)).snd.snd.snd.snd.snd.fst 5 10 0) (cond ((LTc.V.p17 (LTc.V.p9 os hs st tl th ms (fI (ps.getD t11.toNat []) 0) (fI (ps.getD t11.toNat []) 1) (bmin 2000 (bmax 0 (IntKind.i64.wrap (bmax 0 (IntKind.i64.wrap (LTc.V.w16 hl m27_2 m27_3 m27_4 (fI (ps.getD t11.toNat []) 0) (fI (ps.getD t11.toNat []) 1) - t10)) + (fI (ps.getD t11.toNat []) 2).tmod (IntKind.i64.wrap (fI (ps.getD t11.toNat []) 3 + 1)))))) (fI (ps.getD t11.toNat []) 3)).fst (LTc.V.p9 os hs st tl th ms (fI (ps.getD t11.toNat []) 0) (fI (ps.getD t11.toNat []) 1) (bmin 2000 (bmax 0 (IntKind.i64.wrap (bmax 0 (IntKind.i64.wrap (LTc.V.w16 hl m27_2 m27_3 m27_4 (fI (ps.getD t11.toNat []) 0) (fI (ps.getD t11.toNat []) 1) - t10)) + (fI (ps.getD t11.toNat []) 2).tmod (IntKind.i64.wrap (fI (ps.getD t11.toNat []) 3 + 1)))))) (fI (ps.getD t11.toNat []) 3)).snd.fst (LTc.V.p9 os hs st tl th ms (fI (ps.getD t11.toNat []) 0) (fI (ps.getD t11.toNat []) 1) (bmin 2000 (bmax 0 (IntKind.i64.wrap (bmax 0 (IntKind.i64.wrap (LTc.V.w16 hl m27_2 m27_3 m27_4 (fI (ps.getD t11.toNat []) 0) (fI (ps.getD t11.toNat []) 1) - t10)) + (fI (ps.getD t11.toNat []) 2).tmod (IntKind.i64.wrap (fI (ps.getD t11.toNat []) 3 + 1)))))) (fI (ps.getD t11.toNat []) 3)).snd.snd.fst (LTc.V.p9 os hs st tl th ms (fI (ps.getD t11.toNat []) 0) (fI (ps.getD t11.toNat []) 1) (bmin 2000 (bmax 0 (IntKind.i64.wrap (bmax 0 (IntKind.i64.wrap (LTc.V.w16 hl m27_2 m27_3 m27_4 (fI (ps.getD t11.toNat []) 0) (fI (ps.getD t11.toNat []) 1) - t10)) + (fI (ps.getD t11.toNat []) 2).tmod (IntKind.i64.wrap (fI (ps.getD t11.toNat []) 3 + 1)))))) (fI (ps.getD t11.toNat []) 3)).snd.snd.snd.fst (LTc.V.p9 os hs st tl th ms (fI (ps.getD t11.toNat []) 0) (fI (ps.getD t11.toNat []) 1) (bmin 2000 (bmax 0 (IntKind.i64.wrap (bmax 0 (IntKind.i64.wrap (LTc.V.w16 hl m27_2 m27_3 m27_4 (fI (ps.getD t11.toNat []) 0) (fI (ps.getD t11.toNat []) 1) - t10)) + (fI (ps.getD t11.toNat []) 2).tmod (IntKind.i64.wrap (fI (ps.getD t11.toNat []) 3 + 1)))))) (fI (ps.getD t11.toNat []) 3)).snd.snd.snd.snd.fst (LTc.V.p9 os hs st tl th ms (fI (ps.getD t11.toNat []) 0) (fI (ps.getD t11.toNat []) 1) (bmin 2000 (bmax 0 (IntKind.i64.wrap (bmax 0 (IntKind.i64.wrap (LTc.V.w16 hl m27_2 m27_3 m27_4 (fI (ps.getD t11.toNat []) 0) (fI (ps.getD t11.toNat []) 1) - t10)) + (fI (ps.getD t11.toNat []) 2).tmod (IntKind.i64.wrap (fI (ps.getD t11.toNat []) 3 + 1)))))) (fI (ps.getD t11.toNat []) 3)).snd.snd.snd.snd.snd.fst 5 10 0).snd.snd.snd.snd.snd.snd != 0) (some (.ret, o6a_0 hl ps u v t8 m27_0 m27_1 m27_2 m27_3 m27_4 m27_5 false t10 t11 ((LTc.V.p9 os hs st tl th ms (fI (ps.getD t11.toNat []) 0) (fI (ps.getD t11.toNat []) 1) (bmin 2000 (bmax 0 (IntKind.i64.wrap (bmax 0 (IntKind.i64.wrap (LTc.V.w16 hl m27_2 m27_3 m27_4 (fI (ps.getD t11.toNat []) 0) (fI (ps.getD t11.toNat []) 1) - t10)) + (fI (ps.getD t11.toNat []) 2).tmod (IntKind.i64.wrap (fI (ps.getD t11.toNat []) 3 + 1)))))) (fI (ps.getD t11.toNat []) 3)).fst) ((LTc.V.p9 os hs st tl th ms (fI (ps.getD t11.toNat []) 0) (fI (ps.getD t11.toNat []) 1) (bmin 2000 (bmax 0 (IntKind.i64.wrap (bmax 0 (IntKind.i64.wrap (LTc.V.w16 hl m27_2 m27_3 m27_4 (fI (ps.getD t11.toNat []) 0) (fI (ps.getD t11.toNat []) 1) - t10)) + (fI (ps.getD t11.toNat []) 2).tmod (IntKind.i64.wrap (fI (ps.getD t11.toNat []) 3 + 1)))))) (fI (ps.getD t11.toNat []) 3)).snd.fst) ((LTc.V.p9 os hs st tl th ms (fI (ps.getD t11.toNat []) 0) (fI (ps.getD t11.toNat []) 1) (bmin 2000 (bmax 0 (IntKind.i64.wrap (bmax 0 (IntKind.i64.wrap (LTc.V.w16 hl m27_2 m27_3 m27_4 (fI (ps.getD t11.toNat []) 0) (fI (ps.getD t11.toNat []) 1) - t10)) + (fI (ps.getD t11.toNat []) 2).tmod (IntKind.i64.wrap (fI (ps.getD t11.toNat []) 3 + 1)))))) (fI (ps.getD t11.toNat []) 3)).snd.snd.fst) ((LTc.V.p9 os hs st tl th ms (fI (ps.getD t11.toNat []) 0) (fI (ps.getD t11.toNat []) 1) (bmin 2000 (bmax 0 (IntKind.i64.wrap (bmax 0 (IntKind.i64.wrap (LTc.V.w16 hl m27_2 m27_3 m27_4 (fI (ps.getD t11.toNat []) 0) (fI (ps.getD t11.toNat []) 1) - t10)) + (fI (ps.getD t11.toNat []) 2).tmod (IntKind.i64.wrap (fI (ps.getD t11.toNat []) 3 + 1)))))) (fI (ps.getD t11.toNat []) 3)).snd.snd.snd.fst) ((LTc.V.p9 os hs st tl th ms (fI (ps.getD t11.toNat []) 0) (fI (ps.getD t11.toNat []) 1) (bmin 2000 (bmax 0 (IntKind.i64.wrap (bmax 0 (IntKind.i64.wrap (LTc.V.w16 hl m27_2 m27_3 m27_4 (fI (ps.getD t11.toNat []) 0) (fI (ps.getD t11.toNat []) 1) - t10)) + (fI (ps.getD t11.toNat []) 2).tmod (IntKind.i64.wrap (fI (ps.getD t11.toNat []) 3 + 1)))))) (fI (ps.getD t11.toNat []) 3)).snd.snd.snd.snd.fst) ((LTc.V.p9 os hs st tl th ms (fI (ps.getD t11.toNat []) 0) (fI (ps.getD t11.toNat []) 1) (bmin 2000 (bmax 0 (IntKind.i64.wrap (bmax 0 (IntKind.i64.wrap (LTc.V.w16 hl m27_2 m27_3 m27_4 (fI (ps.getD t11.toNat []) 0) (fI (ps.getD t11.toNat []) 1) - t10)) + (fI (ps.getD t11.toNat []) 2).tmod (IntKind.i64.wrap (fI (ps.getD t11.toNat []) 3 + 1)))))) (fI (ps.getD t11.toNat []) 3)).snd.snd.snd.snd.snd.fst))) (some (.nrm, s6a hl ps u v t8 (IntKind.i64.wrap (t10 + IntKind.i64.wrap (5 + (bmax 0 ((fI (ps.getD t11.toNat []) 2).tmod (IntKind.i64.wrap (fI (ps.getD t11.toNat []) 3 + 1)))).tmod 6))) (IntKind.i64.wrap (t11 + 1)) ((LTc.V.p17 (LTc.V.p9 os hs st tl th ms (fI (ps.getD t11.toNat []) 0) (fI (ps.getD t11.toNat []) 1) (bmin 2000 (bmax 0 (IntKind.i64.wrap (bmax 0 (IntKind.i64.wrap (LTc.V.w16 hl m27_2 m27_3 m27_4 (fI (ps.getD t11.toNat []) 0) (fI (ps.getD t11.toNat []) 1) - t10)) + (fI (ps.getD t11.toNat []) 2).tmod (IntKind.i64.wrap (fI (ps.getD t11.toNat []) 3 + 1)))))) (fI (ps.getD t11.toNat []) 3)).fst (LTc.V.p9 os hs st tl th ms (fI (ps.getD t11.toNat []) 0) (fI (ps.getD t11.toNat []) 1) (bmin 2000 (bmax 0 (IntKind.i64.wrap (bmax 0 (IntKind.i64.wrap (LTc.V.w16 hl m27_2 m27_3 m27_4 (fI (ps.getD t11.toNat []) 0) (fI (ps.getD t11.toNat []) 1) - t10)) + (fI (ps.getD t11.toNat []) 2).tmod (IntKind.i64.wrap (fI (ps.getD t11.toNat []) 3 + 1)))))) (fI (ps.getD t11.toNat []) 3)).snd.fst (LTc.V.p9 os hs st tl th ms (fI (ps.getD t11.toNat []) 0) (fI (ps.getD t11.toNat []) 1) (bmin 2000 (bmax 0 (IntKind.i64.wrap (bmax 0 (IntKind.i64.wrap (LTc.V.w16 hl m27_2 m27_3 m27_4 (fI (ps.getD t11.toNat []) 0) (fI (ps.getD t11.toNat []) 1) - t10)) + (fI (ps.getD t11.toNat []) 2).tmod (IntKind.i64.wrap (fI (ps.getD t11.toNat []) 3 + 1)))))) (fI (ps.getD t11.toNat []) 3)).snd.snd.fst (LTc.V.p9 os hs st tl th ms (fI (ps.getD t11.toNat []) 0) (fI (ps.getD t11.toNat []) 1) (bmin 2000 (bmax 0 (IntKind.i64.wrap (bmax 0 (IntKind.i64.wrap (LTc.V.w16 hl m27_2 m27_3 m27_4 (fI (ps.getD t11.toNat []) 0) (fI (ps.getD t11.toNat []) 1) - t10)) + (fI (ps.getD t11.toNat []) 2).tmod (IntKind.i64.wrap (fI (ps.getD t11.toNat []) 3 + 1)))))) (fI (ps.getD t11.toNat []) 3)).snd.snd.snd.fst (LTc.V.p9 os hs st tl th ms (fI (ps.getD t11.toNat []) 0) (fI (ps.getD t11.toNat []) 1) (bmin 2000 (bmax 0 (IntKind.i64.wrap (bmax 0 (IntKind.i64.wrap (LTc.V.w16 hl m27_2 m27_3 m27_4 (fI (ps.getD t11.toNat []) 0) (fI (ps.getD t11.toNat []) 1) - t10)) + (fI (ps.getD t11.toNat []) 2).tmod (IntKind.i64.wrap (fI (ps.getD t11.toNat []) 3 + 1)))))) (fI (ps.getD t11.toNat []) 3)).snd.snd.snd.snd.fst (LTc.V.p9 os hs st tl th ms (fI (ps.getD t11.toNat []) 0) (fI (ps.getD t11.toNat []) 1) (bmin 2000 (bmax 0 (IntKind.i64.wrap (bmax 0 (IntKind.i64.wrap (LTc.V.w16 hl m27_2 m27_3 m27_4 (fI (ps.getD t11.toNat []) 0) (fI (ps.getD t11.toNat []) 1) - t10)) + (fI (ps.getD t11.toNat []) 2).tmod (IntKind.i64.wrap (fI (ps.getD t11.toNat []) 3 + 1)))))) (fI (ps.getD t11.toNat []) 3)).snd.snd.snd.snd.snd.fst 5 10 0).fst) ((LTc.V.p17 (LTc.V.p9 os hs st tl th ms (fI (ps.getD t11.toNat []) 0) (fI (ps.getD t11.toNat []) 1) (bmin 2000 (bmax 0 (IntKind.i64.wrap (bmax 0 (IntKind.i64.wrap (LTc.V.w16 hl m27_2 m27_3 m27_4 (fI (ps.getD t11.toNat []) 0) (fI (ps.getD t11.toNat []) 1) - t10)) + (fI (ps.getD t11.toNat []) 2).tmod (IntKind.i64.wrap (fI (ps.getD t11.toNat []) 3 + 1)))))) (fI (ps.getD t11.toNat []) 3)).fst (LTc.V.p9 os hs st tl th ms (fI (ps.getD t11.toNat []) 0) (fI (ps.getD t11.toNat []) 1) (bmin 2000 (bmax 0 (IntKind.i64.wrap (bmax 0 (IntKind.i64.wrap (LTc.V.w16 hl m27_2 m27_3 m27_4 (fI (ps.getD t11.toNat []) 0) (fI (ps.getD t11.toNat []) 1) - t10)) + (fI (ps.getD t11.toNat []) 2).tmod (IntKind.i64.wrap (fI (ps.getD t11.toNat []) 3 + 1)))))) (fI (ps.getD t11.toNat []) 3)).snd.fst (LTc.V.p9 os hs st tl th ms (fI (ps.getD t11.toNat []) 0) (fI (ps.getD t11.toNat []) 1) (bmin 2000 (bmax 0 (IntKind.i64.wrap (bmax 0 (IntKind.i64.wrap (LTc.V.w16 hl m27_2 m27_3 m27_4 (fI (ps.getD t11.toNat []) 0) (fI (ps.getD t11.toNat []) 1) - t10)) + (fI (ps.getD t11.toNat []) 2).tmod (IntKind.i64.wrap (fI (ps.getD t11.toNat []) 3 + 1)))))) (fI (ps.getD t11.toNat []) 3)).snd.snd.fst (LTc.V.p9 os hs st tl th ms (fI (ps.getD t11.toNat []) 0) (fI (ps.getD t11.toNat []) 1) (bmin 2000 (bmax 0 (IntKind.i64.wrap (bmax 0 (IntKind.i64.wrap (LTc.V.w16 hl m27_2 m27_3 m27_4 (fI (ps.getD t11.toNat []) 0) (fI (ps.getD t11.toNat []) 1) - t10)) + (fI (ps.getD t11.toNat []) 2).tmod (IntKind.i64.wrap (fI (ps.getD t11.toNat []) 3 + 1)))))) (fI (ps.getD t11.toNat []) 3)).snd.snd.snd.fst (LTc.V.p9 os hs st tl th ms (fI (ps.getD t11.toNat []) 0) (fI (ps.getD t11.toNat []) 1) (bmin 2000 (bmax 0 (IntKind.i64.wrap (bmax 0 (IntKind.i64.wrap (LTc.V.w16 hl m27_2 m27_3 m27_4 (fI (ps.getD t11.toNat []) 0) (fI (ps.getD t11.toNat []) 1) - t10)) + (fI (ps.getD t11.toNat []) 2).tmod (IntKind.i64.wrap (fI (ps.getD t11.toNat []) 3 + 1)))))) (fI (ps.getD t11.toNat []) 3)).snd.snd.snd.snd.fst (LTc.V.p9 os hs st tl th ms (fI (ps.getD t11.toNat []) 0) (fI (ps.getD t11.toNat []) 1) (bmin 2000 (bmax 0 (IntKind.i64.wrap (bmax 0 (IntKind.i64.wrap (LTc.V.w16 hl m27_2 m27_3 m27_4 (fI (ps.getD t11.toNat []) 0) (fI (ps.getD t11.toNat []) 1) - t10)) + (fI (ps.getD t11.toNat []) 2).tmod (IntKind.i64.wrap (fI (ps.getD t11.toNat []) 3 + 1)))))) (fI (ps.getD t11.toNat []) 3)).snd.snd.snd.snd.snd.fst 5 10 0).snd.fst) ((LTc.V.p17 (LTc.V.p9 os hs st tl th ms (fI (ps.getD t11.toNat []) 0) (fI (ps.getD t11.toNat []) 1) (bmin 2000 (bmax 0 (IntKind.i64.wrap (bmax 0 (IntKind.i64.wrap (LTc.V.w16 hl m27_2 m27_3 m27_4 (fI (ps.getD t11.toNat []) 0) (fI (ps.getD t11.toNat []) 1) - t10)) + (fI (ps.getD t11.toNat []) 2).tmod (IntKind.i64.wrap (fI (ps.getD t11.toNat []) 3 + 1)))))) (fI (ps.getD t11.toNat []) 3)).fst (LTc.V.p9 os hs st tl th ms (fI (ps.getD t11.toNat []) 0) (fI (ps.getD t11.toNat []) 1) (bmin 2000 (bmax 0 (IntKind.i64.wrap (bmax 0 (IntKind.i64.wrap (LTc.V.w16 hl m27_2 m27_3 m27_4 (fI (ps.getD t11.toNat []) 0) (fI (ps.getD t11.toNat []) 1) - t10)) + (fI (ps.getD t11.toNat []) 2).tmod (IntKind.i64.wrap (fI (ps.getD t11.toNat []) 3 + 1)))))) (fI (ps.getD t11.toNat []) 3)).snd.fst (LTc.V.p9 os hs st tl th ms (fI (ps.getD t11.toNat []) 0) (fI (ps.getD t11.toNat []) 1) (bmin 2000 (bmax 0 (IntKind.i64.wrap (bmax 0 (IntKind.i64.wrap (LTc.V.w16 hl m27_2 m27_3 m27_4 (fI (ps.getD t11.toNat []) 0) (fI (ps.getD t11.toNat []) 1) - t10)) + (fI (ps.getD t11.toNat []) 2).tmod (IntKind.i64.wrap (fI (ps.getD t11.toNat []) 3 + 1)))))) (fI (ps.getD t11.toNat []) 3)).snd.snd.fst (LTc.V.p9 os hs st tl th ms (fI (ps.getD t11.toNat []) 0) (fI (ps.getD t11.toNat []) 1) (bmin 2000 (bmax 0 (IntKind.i64.wrap (bmax 0 (IntKind.i64.wrap (LTc.V.w16 hl m27_2 m27_3 m27_4 (fI (ps.getD t11.toNat []) 0) (fI (ps.getD t11.toNat []) 1) - t10)) + (fI (ps.getD t11.toNat []) 2).tmod (IntKind.i64.wrap (fI (ps.getD t11.toNat []) 3 + 1)))))) (fI (ps.getD t11.toNat []) 3)).snd.snd.snd.fst (LTc.V.p9 os hs st tl th ms (fI (ps.getD t11.toNat []) 0) (fI (ps.getD t11.toNat []) 1) (bmin 2000 (bmax 0 (IntKind.i64.wrap (bmax 0 (IntKind.i64.wrap (LTc.V.w16 hl m27_2 m27_3 m27_4 (fI (ps.getD t11.toNat []) 0) (fI (ps.getD t11.toNat []) 1) - t10)) + (fI (ps.getD t11.toNat []) 2).tmod (IntKind.i64.wrap (fI (ps.getD t11.toNat []) 3 + 1)))))) (fI (ps.getD t11.toNat []) 3)).snd.snd.snd.snd.fst (LTc.V.p9 os hs st tl th ms (fI (ps.getD t11.toNat []) 0) (fI (ps.getD t11.toNat []) 1) (bmin 2000 (bmax 0 (IntKind.i64.wrap (bmax 0 (IntKind.i64.wrap (LTc.V.w16 hl m27_2 m27_3 m27_4 (fI (ps.getD t11.toNat []) 0) (fI (ps.getD t11.toNat []) 1) - t10)) + (fI (ps.getD t11.toNat []) 2).tmod (IntKind.i64.wrap (fI (ps.getD t11.toNat []) 3 + 1)))))) (fI (ps.getD t11.toNat []) 3)).snd.snd.snd.snd.snd.fst 5 10 0).snd.snd.fst) ((LTc.V.p17 (LTc.V.p9 os hs st tl th ms (fI (ps.getD t11.toNat []) 0) (fI (ps.getD t11.toNat []) 1) (bmin 2000 (bmax 0 (IntKind.i64.wrap (bmax 0 (IntKind.i64.wrap (LTc.V.w16 hl m27_2 m27_3 m27_4 (fI (ps.getD t11.toNat []) 0) (fI (ps.getD t11.toNat []) 1) - t10)) + (fI (ps.getD t11.toNat []) 2).tmod (IntKind.i64.wrap (fI (ps.getD t11.toNat []) 3 + 1)))))) (fI (ps.getD t11.toNat []) 3)).fst (LTc.V.p9 os hs st tl th ms (fI (ps.getD t11.toNat []) 0) (fI (ps.getD t11.toNat []) 1) (bmin 2000 (bmax 0 (IntKind.i64.wrap (bmax 0 (IntKind.i64.wrap (LTc.V.w16 hl m27_2 m27_3 m27_4 (fI (ps.getD t11.toNat []) 0) (fI (ps.getD t11.toNat []) 1) - t10)) + (fI (ps.getD t11.toNat []) 2).tmod (IntKind.i64.wrap (fI (ps.getD t11.toNat []) 3 + 1)))))) (fI (ps.getD t11.toNat []) 3)).snd.fst (LTc.V.p9 os hs st tl th ms (fI (ps.getD t11.toNat []) 0) (fI (ps.getD t11.toNat []) 1) (bmin 2000 (bmax 0 (IntKind.i64.wrap (bmax 0 (IntKind.i64.wrap (LTc.V.w16 hl m27_2 m27_3 m27_4 (fI (ps.getD t11.toNat []) 0) (fI (ps.getD t11.toNat []) 1) - t10)) + (fI (ps.getD t11.toNat []) 2).tmod (IntKind.i64.wrap (fI (ps.getD t11.toNat []) 3 + 1)))))) (fI (ps.getD t11.toNat []) 3)).snd.snd.fst (LTc.V.p9 os hs st tl th ms (fI (ps.getD t11.toNat []) 0) (fI (ps.getD t11.toNat []) 1) (bmin 2000 (bmax 0 (IntKind.i64.wrap (bmax 0 (IntKind.i64.wrap (LTc.V.w16 hl m27_2 m27_3 m27_4 (fI (ps.getD t11.toNat []) 0) (fI (ps.getD t11.toNat []) 1) - t10)) + (fI (ps.getD t11.toNat []) 2).tmod (IntKind.i64.wrap (fI (ps.getD t11.toNat []) 3 + 1)))))) (fI (ps.getD t11.toNat []) 3)).snd.snd.snd.fst (LTc.V.p9 os hs st tl th ms (fI (ps.getD t11.toNat []) 0) (fI (ps.getD t11.toNat []) 1) (bmin 2000 (bmax 0 (IntKind.i64.wrap (bmax 0 (IntKind.i64.wrap (LTc.V.w16 hl m27_2 m27_3 m27_4 (fI (ps.getD t11.toNat []) 0) (fI (ps.getD t11.toNat []) 1) - t10)) + (fI (ps.getD t11.toNat []) 2).tmod (IntKind.i64.wrap (fI (ps.getD t11.toNat []) 3 + 1)))))) (fI (ps.getD t11.toNat []) 3)).snd.snd.snd.snd.fst (LTc.V.p9 os hs st tl th ms (fI (ps.getD t11.toNat []) 0) (fI (ps.getD t11.toNat []) 1) (bmin 2000 (bmax 0 (IntKind.i64.wrap (bmax 0 (IntKind.i64.wrap (LTc.V.w16 hl m27_2 m27_3 m27_4 (fI (ps.getD t11.toNat []) 0) (fI (ps.getD t11.toNat []) 1) - t10)) + (fI (ps.getD t11.toNat []) 2).tmod (IntKind.i64.wrap (fI (ps.getD t11.toNat []) 3 + 1)))))) (fI (ps.getD t11.toNat []) 3)).snd.snd.snd.snd.snd.fst 5 10 0).snd.snd.snd.fst) ((LTc.V.p17 (LTc.V.p9 os hs st tl th ms (fI (ps.getD t11.toNat []) 0) (fI (ps.getD t11.toNat []) 1) (bmin 2000 (bmax 0 (IntKind.i64.wrap (bmax 0 (IntKind.i64.wrap (LTc.V.w16 hl m27_2 m27_3 m27_4 (fI (ps.getD t11.toNat []) 0) (fI (ps.getD t11.toNat []) 1) - t10)) + (fI (ps.getD t11.toNat []) 2).tmod (IntKind.i64.wrap (fI (ps.getD t11.toNat []) 3 + 1)))))) (fI (ps.getD t11.toNat []) 3)).fst (LTc.V.p9 os hs st tl th ms (fI (ps.getD t11.toNat []) 0) (fI (ps.getD t11.toNat []) 1) (bmin 2000 (bmax 0 (IntKind.i64.wrap (bmax 0 (IntKind.i64.wrap (LTc.V.w16 hl m27_2 m27_3 m27_4 (fI (ps.getD t11.toNat []) 0) (fI (ps.getD t11.toNat []) 1) - t10)) + (fI (ps.getD t11.toNat []) 2).tmod (IntKind.i64.wrap (fI (ps.getD t11.toNat []) 3 + 1)))))) (fI (ps.getD t11.toNat []) 3)).snd.fst (LTc.V.p9 os hs st tl th ms (fI (ps.getD t11.toNat []) 0) (fI (ps.getD t11.toNat []) 1) (bmin 2000 (bmax 0 (IntKind.i64.wrap (bmax 0 (IntKind.i64.wrap (LTc.V.w16 hl m27_2 m27_3 m27_4 (fI (ps.getD t11.toNat []) 0) (fI (ps.getD t11.toNat []) 1) - t10)) + (fI (ps.getD t11.toNat []) 2).tmod (IntKind.i64.wrap (fI (ps.getD t11.toNat []) 3 + 1)))))) (fI (ps.getD t11.toNat []) 3)).snd.snd.fst (LTc.V.p9 os hs st tl th ms (fI (ps.getD t11.toNat []) 0) (fI (ps.getD t11.toNat []) 1) (bmin 2000 (bmax 0 (IntKind.i64.wrap (bmax 0 (IntKind.i64.wrap (LTc.V.w16 hl m27_2 m27_3 m27_4 (fI (ps.getD t11.toNat []) 0) (fI (ps.getD t11.toNat []) 1) - t10)) + (fI (ps.getD t11.toNat []) 2).tmod (IntKind.i64.wrap (fI (ps.getD t11.toNat []) 3 + 1)))))) (fI (ps.getD t11.toNat []) 3)).snd.snd.snd.fst (LTc.V.p9 os hs st tl th ms (fI (ps.getD t11.toNat []) 0) (fI (ps.getD t11.toNat []) 1) (bmin 2000 (bmax 0 (IntKind.i64.wrap (bmax 0 (IntKind.i64.wrap (LTc.V.w16 hl m27_2 m27_3 m27_4 (fI (ps.getD t11.toNat []) 0) (fI (ps.getD t11.toNat []) 1) - t10)) + (fI (ps.getD t11.toNat []) 2).tmod (IntKind.i64.wrap (fI (ps.getD t11.toNat []) 3 + 1)))))) (fI (ps.getD t11.toNat []) 3)).snd.snd.snd.snd.fst (LTc.V.p9 os hs st tl th ms (fI (ps.getD t11.toNat []) 0) (fI (ps.getD t11.toNat []) 1) (bmin 2000 (bmax 0 (IntKind.i64.wrap (bmax 0 (IntKind.i64.wrap (LTc.V.w16 hl m27_2 m27_3 m27_4 (fI (ps.getD t11.toNat []) 0) (fI (ps.getD t11.toNat []) 1) - t10)) + (fI (ps.getD t11.toNat []) 2).tmod (IntKind.i64.wrap (fI (ps.getD t11.toNat []) 3 + 1)))))) (fI (ps.getD t11.toNat []) 3)).snd.snd.snd.snd.snd.fst 5 10 0).snd.snd.snd.snd.fst) ((LTc.V.p17 (LTc.V.p9 os hs st tl th ms (fI (ps.getD t11.toNat []) 0) (fI (ps.getD t11.toNat []) 1) (bmin 2000 (bmax 0 (IntKind.i64.wrap (bmax 0 (IntKind.i64.wrap (LTc.V.w16 hl m27_2 m27_3 m27_4 (fI (ps.getD t11.toNat []) 0) (fI (ps.getD t11.toNat []) 1) - t10)) + (fI (ps.getD t11.toNat []) 2).tmod (IntKind.i64.wrap (fI (ps.getD t11.toNat []) 3 + 1)))))) (fI (ps.getD t11.toNat []) 3)).fst (LTc.V.p9 os hs st tl th ms (fI (ps.getD t11.toNat []) 0) (fI (ps.getD t11.toNat []) 1) (bmin 2000 (bmax 0 (IntKind.i64.wrap (bmax 0 (IntKind.i64.wrap (LTc.V.w16 hl m27_2 m27_3 m27_4 (fI (ps.getD t11.toNat []) 0) (fI (ps.getD t11.toNat []) 1) - t10)) + (fI (ps.getD t11.toNat []) 2).tmod (IntKind.i64.wrap (fI (ps.getD t11.toNat []) 3 + 1)))))) (fI (ps.getD t11.toNat []) 3)).snd.fst (LTc.V.p9 os hs st tl th ms (fI (ps.getD t11.toNat []) 0) (fI (ps.getD t11.toNat []) 1) (bmin 2000 (bmax 0 (IntKind.i64.wrap (bmax 0 (IntKind.i64.wrap (LTc.V.w16 hl m27_2 m27_3 m27_4 (fI (ps.getD t11.toNat []) 0) (fI (ps.getD t11.toNat []) 1) - t10)) + (fI (ps.getD t11.toNat []) 2).tmod (IntKind.i64.wrap (fI (ps.getD t11.toNat []) 3 + 1)))))) (fI (ps.getD t11.toNat []) 3)).snd.snd.fst (LTc.V.p9 os hs st tl th ms (fI (ps.getD t11.toNat []) 0) (fI (ps.getD t11.toNat []) 1) (bmin 2000 (bmax 0 (IntKind.i64.wrap (bmax 0 (IntKind.i64.wrap (LTc.V.w16 hl m27_2 m27_3 m27_4 (fI (ps.getD t11.toNat []) 0) (fI (ps.getD t11.toNat []) 1) - t10)) + (fI (ps.getD t11.toNat []) 2).tmod (IntKind.i64.wrap (fI (ps.getD t11.toNat []) 3 + 1)))))) (fI (ps.getD t11.toNat []) 3)).snd.snd.snd.fst (LTc.V.p9 os hs st tl th ms (fI (ps.getD t11.toNat []) 0) (fI (ps.getD t11.toNat []) 1) (bmin 2000 (bmax 0 (IntKind.i64.wrap (bmax 0 (IntKind.i64.wrap (LTc.V.w16 hl m27_2 m27_3 m27_4 (fI (ps.getD t11.toNat []) 0) (fI (ps.getD t11.toNat []) 1) - t10)) + (fI (ps.getD t11.toNat []) 2).tmod (IntKind.i64.wrap (fI (ps.getD t11.toNat []) 3 + 1)))))) (fI (ps.getD t11.toNat []) 3)).snd.snd.snd.snd.fst (LTc.V.p9 os hs st tl th ms (fI (ps.getD t11.toNat []) 0) (fI (ps.getD t11.toNat []) 1) (bmin 2000 (bmax 0 (IntKind.i64.wrap (bmax 0 (IntKind.i64.wrap (LTc.V.w16 hl m27_2 m27_3 m27_4 (fI (ps.getD t11.toNat []) 0) (fI (ps.getD t11.toNat []) 1) - t10)) + (fI (ps.getD t11.toNat []) 2).tmod (IntKind.i64.wrap (fI (ps.getD t11.toNat []) 3 + 1)))))) (fI (ps.getD t11.toNat []) 3)).snd.snd.snd.snd.snd.fst 5 10 0).snd.snd.snd.snd.snd.fst) m27_0 m27_1 m27_2 m27_3 m27_4 m27_5))) (none)) (some (.nrm, s6a hl ps u v t8 t10 (IntKind.i64.wrap (t11 + 1)) ((LTc.V.p9 os hs st tl th ms (fI (ps.getD t11.toNat []) 0) (fI (ps.getD t11.toNat []) 1) (bmin 2000 (bmax 0 (IntKind.i64.wrap (bmax 0 (IntKind.i64.wrap (LTc.V.w16 hl m27_2 m27_3 m27_4 (fI (ps.getD t11.toNat []) 0) (fI (ps.getD t11.toNat []) 1) - t10)) + (fI (ps.getD t11.toNat []) 2).tmod (IntKind.i64.wrap (fI (ps.getD t11.toNat []) 3 + 1)))))) (fI (ps.getD t11.toNat []) 3)).fst) ((LTc.V.p9 os hs st tl th ms (fI (ps.getD t11.toNat []) 0) (fI (ps.getD t11.toNat []) 1) (bmin 2000 (bmax 0 (IntKind.i64.wrap (bmax 0 (IntKind.i64.wrap (LTc.V.w16 hl m27_2 m27_3 m27_4 (fI (ps.getD t11.toNat []) 0) (fI (ps.getD t11.toNat []) 1) - t10)) + (fI (ps.getD t11.toNat []) 2).tmod (IntKind.i64.wrap (fI (ps.getD t11.toNat []) 3 + 1)))))) (fI (ps.getD t11.toNat []) 3)).snd.fst) ((LTc.V.p9 os hs st tl th ms (fI (ps.getD t11.toNat []) 0) (fI (ps.getD t11.toNat []) 1) (bmin 2000 (bmax 0 (IntKind.i64.wrap (bmax 0 (IntKind.i64.wrap (LTc.V.w16 hl m27_2 m27_3 m27_4 (fI (ps.getD t11.toNat []) 0) (fI (ps.getD t11.toNat []) 1) - t10)) + (fI (ps.getD t11.toNat []) 2).tmod (IntKind.i64.wrap (fI (ps.getD t11.toNat []) 3 + 1)))))) (fI (ps.getD t11.toNat []) 3)).snd.snd.fst) ((LTc.V.p9 os hs st tl th ms (fI (ps.getD t11.toNat []) 0) (fI (ps.getD t11.toNat []) 1) (bmin 2000 (bmax 0 (IntKind.i64.wrap (bmax 0 (IntKind.i64.wrap (LTc.V.w16 hl m27_2 m27_3 m27_4 (fI (ps.getD t11.toNat []) 0) (fI (ps.getD t11.toNat []) 1) - t10)) + (fI (ps.getD t11.toNat []) 2).tmod (IntKind.i64.wrap (fI (ps.getD t11.toNat []) 3 + 1)))))) (fI (ps.getD t11.toNat []) 3)).snd.snd.snd.fst) ((LTc.V.p9 os hs st tl th ms (fI (ps.getD t11.toNat []) 0) (fI (ps.getD t11.toNat []) 1) (bmin 2000 (bmax 0 (IntKind.i64.wrap (bmax 0 (IntKind.i64.wrap (LTc.V.w16 hl m27_2 m27_3 m27_4 (fI (ps.getD t11.toNat []) 0) (fI (ps.getD t11.toNat []) 1) - t10)) + (fI (ps.getD t11.toNat []) 2).tmod (IntKind.i64.wrap (fI (ps.getD t11.toNat []) 3 + 1)))))) (fI (ps.getD t11.toNat []) 3)).snd.snd.snd.snd.fst) ((LTc.V.p9 os hs st tl th ms (fI (ps.getD t11.toNat []) 0) (fI (ps.getD t11.toNat []) 1) (bmin 2000 (bmax 0 (IntKind.i64.wrap (bmax 0 (IntKind.i64.wrap (LTc.V.w16 hl m27_2 m27_3 m27_4 (fI (ps.getD t11.toNat []) 0) (fI (ps.getD t11.toNat []) 1) - t10)) + (fI (ps.getD t11.toNat []) 2).tmod (IntKind.i64.wrap (fI (ps.getD t11.toNat []) 3 + 1)))))) (fI (ps.getD t11.toNat []) 3)).snd.snd.snd.snd.snd.fst) m27_0 m27_1 m27_2 m27_3 m27_4 m27_5)))))) (none))) (none)))))))) (none)) (some (.ext 0, o6a_1 hl ps u v t8 m27_0 m27_1 m27_2 m27_3 m27_4 m27_5 t10 t11 os hs st tl th ms)) := by kernel_rfl
theorem rnd6a (hl ps : List (List AV)) (u v : Int) (t8 : Bool) (m27_0 m27_1 : List (List AV)) (m27_2 m27_3 m27_4 : Int) (m27_5 : List (List AV)) (x : S6a) : round Try.prog ST (ro 6) L6 lp6a [false, true, false, true, true, true] [(1, none), (2, none), (4, none), (7, none), (8, none), (9, none), (10, none), (11, none)] 28 ((fun x => s6a hl ps u v t8 x.t10 x.t11 x.os x.hs x.st x.tl x.th x.ms m27_0 m27_1 m27_2 m27_3 m27_4 m27_5) x) = toR (fun x => s6a hl ps u v t8 x.t10 x.t11 x.os x.hs x.st x.tl x.th x.ms m27_0 m27_1 m27_2 m27_3 m27_4 m27_5) (ou6a hl ps u v t8 m27_0 m27_1 m27_2 m27_3 m27_4 m27_5) (stp6a hl ps u v t8 m27_0 m27_1 m27_2 m27_3 m27_4 m27_5 x.t10 x.t11 x.os x.hs x.st x.tl x.th x.ms) := by
  refine (round6a _ _ _ _ _ _ _ _ _ _ _ _ _ _ _ _ _ _ _ ).trans ?_
  unfold stp6a
  simp only [toR_cond]
  rfl
theorem lokb6a (hl ps : List (List AV)) (u v : Int) (t8 : Bool) (t10 t11 : Int) (os hs : List (List AV)) (st tl th : Int) (ms m27_0 m27_1 : List (List AV)) (m27_2 m27_3 m27_4 : Int) (m27_5 : List (List AV)) {e : Ex} {s : St} (hch : Chosen (q6a hl ps u v t8 t10 t11 os hs st tl th ms m27_0 m27_1 m27_2 m27_3 m27_4 m27_5) e s) : LB Try.prog ST (ro 6) L6 lp6a [false, true, false, true, true, true] [(1, none), (2, none), (4, none), (7, none), (8, none), (9, none), (10, none), (11, none)] 28 (s6a hl ps u v t8 t10 t11 os hs st tl th ms m27_0 m27_1 m27_2 m27_3 m27_4 m27_5) e s := by
  unfold q6a at hch
  have main := fun y h => LB_run (x := (⟨t10, t11, os, hs, st, tl, th, ms⟩ : S6a)) (y := y) (nb := 28) (fun y => by cases y <;> simp [ou6a]) (rnd6a hl ps u v t8 m27_0 m27_1 m27_2 m27_3 m27_4 m27_5) h
  obtain ⟨x, hx, hg, rfl, rfl⟩ := chosen_any hch
  simp only [List.mem_cons, List.not_mem_nil, or_false] at hx
  rcases hx with rfl | rfl
  · exact main _ (is6a_0 hl ps u v t8 m27_0 m27_1 m27_2 m27_3 m27_4 m27_5 t10 t11 os hs st tl th ms hg)
  · exact main _ (is6a_1 hl ps u v t8 m27_0 m27_1 m27_2 m27_3 m27_4 m27_5 t10 t11 os hs st tl th ms hg)
theorem lok6a {st : St} {outs : List (Bool × Ex × St)} {e : Ex} {s : St} (hl : l6a st = some outs) (hch : Chosen outs e s) :
    ∃ keep nb, 0 ≤ nb ∧ LB Try.prog ST (ro 6) L6 lp6a [false, true, false, true, true, true] keep nb st e s := by
  unfold l6a at hl
  obtain ⟨ls, hno, rfl⟩ := qget_some hl
  have hno := normW_norm hno
  refine ⟨_, _, ?_, .enterQ hno (s2 := s6a (lLL ls 0) (lLL ls 1) (lI ls 2) (lI ls 3) (lB ls 4) (lI ls 5) (lI ls 6) (lLL ls 7) (lLL ls 8) (lI ls 9) (lI ls 10) (lI ls 11) (lLL ls 12) (lLL ls 13) (lLL ls 14) (lI ls 15) (lI ls 16) (lI ls 17) (lLL ls 18)) (by kernel_rfl) (lokb6a _ _ _ _ _ _ _ _ _ _ _ _ _ _ _ _ _ _ _ hch)⟩
  decide
theorem L6_ok (q : Pl) (c : Code) (hq : locate c6 q.reverse = some (.loop c)) (st : St) (outs : List (Bool × Ex × St)) (e : Ex) (s : St) (hl : L6 q st = some outs) (hch : Chosen outs e s) :
    ∃ keep nb, 0 ≤ nb ∧ LB Try.prog ST (ro 6) L6 c q keep nb st e s := by
  unfold L6 at hl
  split at hl
  · have : locate c6 ([false, true, false, true, true, true] : Pl).reverse = some (.loop lp6a) := by kernel_rfl
    rw [this] at hq
    cases hq
    exact lok6a hl hch
  · cases hl
theorem lok6 : LOK Try.prog ST (ro 6) L6 0 false c6 [] :=
  lok_lo L6_ok c6 [] false (locate_nil _) (by kernel_rfl)
noncomputable def t6 (os hs : List (List AV)) (st tl th : Int) (ms hl ps : List (List AV)) (u v : Int) : Tr ((Bool)) :=
  .cn (LTc.V.g7 os hs st tl th ms) (.cn (LTc.V.w7 os hs st tl th ms) (.lf (true)) (.cn (decide ((↑ms.length : Int) > 0)) (.lf (true)) (.cn (decide ((↑ps.length : Int) > 20)) (.lf (true)) (.cn (LTc.V.g14 hl) (.cn (!LTc.V.w14 hl) (.lf (true)) (.cn (LTc.V.g15 os hs st tl th ms) (.cn (LTc.V.w15 os hs st tl th ms != 0) (.lf (true)) (.cn (i6a_0 hl ps u v false os hs st tl th ms 0 0 os hs st tl th ms) (.lf (v6a_0_t8' hl ps u v false os hs st tl th ms 0 0 os hs st tl th ms)) (.cn (i6a_1 hl ps u v false os hs st tl th ms 0 0 os hs st tl th ms) (.cn (LTc.V.g13 (v6a_1_m0_0 hl ps u v false os hs st tl th ms 0 0 os hs st tl th ms) (v6a_1_m0_1 hl ps u v false os hs st tl th ms 0 0 os hs st tl th ms) (v6a_1_m0_2 hl ps u v false os hs st tl th ms 0 0 os hs st tl th ms) (v6a_1_m0_3 hl ps u v false os hs st tl th ms 0 0 os hs st tl th ms) (v6a_1_m0_4 hl ps u v false os hs st tl th ms 0 0 os hs st tl th ms) (v6a_1_m0_5 hl ps u v false os hs st tl th ms 0 0 os hs st tl th ms) u v) (.cn ((LTc.V.p13 (v6a_1_m0_0 hl ps u v false os hs st tl th ms 0 0 os hs st tl th ms) (v6a_1_m0_1 hl ps u v false os hs st tl th ms 0 0 os hs st tl th ms) (v6a_1_m0_2 hl ps u v false os hs st tl th ms 0 0 os hs st tl th ms) (v6a_1_m0_3 hl ps u v false os hs st tl th ms 0 0 os hs st tl th ms) (v6a_1_m0_4 hl ps u v false os hs st tl th ms 0 0 os hs st tl th ms) (v6a_1_m0_5 hl ps u v false os hs st tl th ms 0 0 os hs st tl th ms) u v).snd.snd != 0) (.cn ((LTc.V.p13 (v6a_1_m0_0 hl ps u v false os hs st tl th ms 0 0 os hs st tl th ms) (v6a_1_m0_1 hl ps u v false os hs st tl th ms 0 0 os hs st tl th ms) (v6a_1_m0_2 hl ps u v false os hs st tl th ms 0 0 os hs st tl th ms) (v6a_1_m0_3 hl ps u v false os hs st tl th ms 0 0 os hs st tl th ms) (v6a_1_m0_4 hl ps u v false os hs st tl th ms 0 0 os hs st tl th ms) (v6a_1_m0_5 hl ps u v false os hs st tl th ms 0 0 os hs st tl th ms) u v).snd.snd == 7) (.lf (true)) (.lf (false))) (.cn (LTc.V.g16 hl st tl th u v) (.cn (decide ((LTc.V.p13 (v6a_1_m0_0 hl ps u v false os hs st tl th ms 0 0 os hs st tl th ms) (v6a_1_m0_1 hl ps u v false os hs st tl th ms 0 0 os hs st tl th ms) (v6a_1_m0_2 hl ps u v false os hs st tl th ms 0 0 os hs st tl th ms) (v6a_1_m0_3 hl ps u v false os hs st tl th ms 0 0 os hs st tl th ms) (v6a_1_m0_4 hl ps u v false os hs st tl th ms 0 0 os hs st tl th ms) (v6a_1_m0_5 hl ps u v false os hs st tl th ms 0 0 os hs st tl th ms) u v).fst ≤ bmax 0 (IntKind.i64.wrap (LTc.V.w16 hl st tl th u v - v6a_1_t10 hl ps u v false os hs st tl th ms 0 0 os hs st tl th ms)))) (.cn (decide (bmax 0 (IntKind.i64.wrap (LTc.V.w16 hl st tl th u v - v6a_1_t10 hl ps u v false os hs st tl th ms 0 0 os hs st tl th ms)) ≤ (LTc.V.p13 (v6a_1_m0_0 hl ps u v false os hs st tl th ms 0 0 os hs st tl th ms) (v6a_1_m0_1 hl ps u v false os hs st tl th ms 0 0 os hs st tl th ms) (v6a_1_m0_2 hl ps u v false os hs st tl th ms 0 0 os hs st tl th ms) (v6a_1_m0_3 hl ps u v false os hs st tl th ms 0 0 os hs st tl th ms) (v6a_1_m0_4 hl ps u v false os hs st tl th ms 0 0 os hs st tl th ms) (v6a_1_m0_5 hl ps u v false os hs st tl th ms 0 0 os hs st tl th ms) u v).snd.fst)) (.lf (true)) (.lf (false))) (.lf (false))) (.nn))) (.nn)) (.nn)))) (.nn))) (.nn))))) (.nn)
noncomputable def g6 (os hs : List (List AV)) (st tl th : Int) (ms hl ps : List (List AV)) (u v : Int) : Bool := (t6 os hs st tl th ms hl ps u v).g
noncomputable def w6_0 (os hs : List (List AV)) (st tl th : Int) (ms hl ps : List (List AV)) (u v : Int) : Bool := (t6 os hs st tl th ms hl ps u v).val
theorem eq6 (os hs : List (List AV)) (st tl th : Int) (ms hl ps : List (List AV)) (u v : Int) : evF Try.prog ST (ro 6) L6 Try.f6 [.agg [.rs 32 os, .rs 55 hs, .i .i64 st, .i .i64 tl, .i .i64 th, .rs 67 ms], .rs 76 hl, .rs 43 ps, .agg [.i .i64 u, .i .i64 v]] = (t6 os hs st tl th ms hl ps u v).opt (fun (x : (Bool)) => (.b x : AV)) := by kernel_rfl
theorem con6 (os hs : List (List AV)) (st tl th : Int) (ms hl ps : List (List AV)) (u v : Int) (h : g6 os hs st tl th ms hl ps u v = true) : Con Try.prog 6 [.agg [.rs 32 os, .rs 55 hs, .i .i64 st, .i .i64 tl, .i .i64 th, .rs 67 ms], .rs 76 hl, .rs 43 ps, .agg [.i .i64 u, .i .i64 v]] [] (.b (w6_0 os hs st tl th ms hl ps u v)) [] :=
  con_of ST_ok mixed Try.func6 (c := c6) rfl (names 6 _ Try.func6) lok6 ((eq6 os hs st tl th ms hl ps u v).trans (Tr.sound _ _ h))
noncomputable def e6 (args : List AV) (rows : List Blk) : Option (Bool × AV × List Blk) := match args, rows with
  | [.agg [.rs 32 os, .rs 55 hs, .i .i64 st, .i .i64 tl, .i .i64 th, .rs 67 ms], .rs 76 hl, .rs 43 ps, .agg [.i .i64 u, .i .i64 v]], [] => some (g6 os hs st tl th ms hl ps u v, .b (w6_0 os hs st tl th ms hl ps u v), [])
  | _, _ => none
-- SPEC 6
end Go.Proofs.Ytoglnllbopcejaa

set_option maxRecDepth 100000
set_option linter.unusedVariables false
namespace Go.Proofs.Ytoglnllbopcejaa
open Go Go.Ev
noncomputable instance lt0 : LTc := ⟨T0, rfl⟩
def In3 (x : Int) : Prop := -1000 ≤ x ∧ x ≤ 1000
theorem far3_eq {a b c d : Int} (ha : In3 a) (hb : In3 b) (hc : In3 c) (hd : In3 d) : farI a b c d = farX a b c d ∧ farX a b c d ≤ 4000 := by
  obtain ⟨a0, a1⟩ := ha
  obtain ⟨b0, b1⟩ := hb
  obtain ⟨c0, c1⟩ := hc
  obtain ⟨d0, d1⟩ := hd
  unfold farI farX
  rw [show Wr (a - c) = a - c from wrap64 (by omega) (by omega), show Wr (c - a) = c - a from wrap64 (by omega) (by omega), show Wr (b - d) = b - d from wrap64 (by omega) (by omega), show Wr (d - b) = d - b from wrap64 (by omega) (by omega), bmax_max, bmax_max]
  exact ⟨wrap64 (by omega) (by omega), by omega⟩
def hv (e : List AV) : Int := (IntKind.i64.wrap (fI e 2)).tmod 2001
theorem hv_le (e : List AV) : -2000 ≤ hv e ∧ hv e ≤ 2000 := by
  unfold hv
  generalize IntKind.i64.wrap (fI e 2) = x
  by_cases h : 0 ≤ x
  · have h1 := Int.tmod_nonneg (a := x) 2001 h
    have h2 := Int.tmod_lt_of_pos x (b := 2001) (by decide)
    omega
  · have e : x.tmod 2001 = -((-x).tmod 2001) := by rw [Int.neg_tmod]; omega
    have h1 := Int.tmod_nonneg (a := -x) 2001 (by omega)
    have h2 := Int.tmod_lt_of_pos (-x) (b := 2001) (by decide)
    omega
def hill (st lo u v n : Int) (e : List AV) : Int := min n (max lo (hv e) + st * farX u v (cU e) (cV e))
def thickX (hl : List (List AV)) (st lo hi u v : Int) : Int := max (hl.foldl (hill st lo u v) hi) lo
def nearX (hl : List (List AV)) : Prop := ∀ e, e ∈ hl → In3 (cU e) ∧ In3 (cV e)
theorem hill_fold_lip {st lo : Int} (hs : 0 ≤ st) (u v u' v' : Int) : ∀ (hl : List (List AV)) (n n' : Int), n ≤ n' + st * farX u v u' v' → hl.foldl (hill st lo u v) n ≤ hl.foldl (hill st lo u' v') n' + st * farX u v u' v'
  | [], n, n', h => h
  | e :: r, n, n', h => by
    refine hill_fold_lip hs u v u' v' r _ _ ?_
    unfold hill
    have h1 := farX_tri u v u' v' (cU e) (cV e)
    have h2 := Int.mul_le_mul_of_nonneg_left h1 hs
    rw [Int.mul_add] at h2
    omega
theorem thick_lip {hl : List (List AV)} {st lo hi : Int} (hs : 0 ≤ st) (u v u' v' : Int) : thickX hl st lo hi u v ≤ thickX hl st lo hi u' v' + st * farX u v u' v' := by
  have h0 : 0 ≤ st * farX u v u' v' := Int.mul_nonneg hs (farX_nonneg _ _ _ _)
  have := hill_fold_lip (lo := lo) hs u v u' v' hl hi hi (by omega)
  unfold thickX
  omega
theorem hill_fold_le {st lo u v : Int} : ∀ (hl : List (List AV)) (n : Int), hl.foldl (hill st lo u v) n ≤ n
  | [], n => Int.le_refl _
  | e :: r, n => by
    have := hill_fold_le (st := st) (lo := lo) (u := u) (v := v) r (hill st lo u v n e)
    simp only [List.foldl_cons]
    unfold hill at this ⊢
    omega
theorem thick_in {hl : List (List AV)} {st lo hi u v : Int} (h : lo ≤ hi) : lo ≤ thickX hl st lo hi u v ∧ thickX hl st lo hi u v ≤ hi := by
  have := hill_fold_le (st := st) (lo := lo) (u := u) (v := v) hl hi
  unfold thickX
  omega
theorem k14 (hl : List (List AV)) (hlen : hl.length ≤ 9223372036854775807) : g14 hl = true ∧ (w14_0 hl = true → hl.length ≤ 20 ∧ nearX hl) := by
  have h : r14a hl false 0 = some (cond (anyN (fun i => decide (fI (hl.getD i []) 0 < -1000) || (decide (fI (hl.getD i []) 0 > 1000) || (decide (fI (hl.getD i []) 1 < -1000) || decide (fI (hl.getD i []) 1 > 1000)))) hl.length)
      (.x0 false ((firstN (fun i => decide (fI (hl.getD i []) 0 < -1000) || (decide (fI (hl.getD i []) 0 > 1000) || (decide (fI (hl.getD i []) 1 < -1000) || decide (fI (hl.getD i []) 1 > 1000)))) hl.length : Nat) : Int)) (.x1 (hl.length : Int))) := by
    refine run_find (n := hl.length) (fun k => (⟨(k : Int)⟩ : S14a)) _ (fun k => T14a.x0 false (k : Int)) _ (fun k hk => ?_) ?_
    · unfold stp14a
      simp only [lt_true hk, inb_true hk, wrap_succ (show k < 9223372036854775807 by omega), Int.toNat_natCast, cond_true]
      cases decide (fI (hl.getD k []) 0 < -1000) <;> cases decide (fI (hl.getD k []) 0 > 1000) <;> cases decide (fI (hl.getD k []) 1 < -1000) <;> cases decide (fI (hl.getD k []) 1 > 1000) <;> rfl
    · unfold stp14a
      rw [lt_false]; rfl
  have key : TrP (fun x => x = true → hl.length ≤ 20 ∧ nearX hl) (t14 hl) := by
    unfold t14 i14a_0 i14a_1 v14a_0_t2'
    rw [h]
    cases ha : anyN (fun i => decide (fI (hl.getD i []) 0 < -1000) || (decide (fI (hl.getD i []) 0 > 1000) || (decide (fI (hl.getD i []) 1 < -1000) || decide (fI (hl.getD i []) 1 > 1000)))) hl.length
    · refine .f rfl (.t rfl fun hd => ?_)
      have hd := of_decide_eq_true hd
      refine ⟨by omega, fun e he => ?_⟩
      obtain ⟨i, hi, rfl⟩ := mem_getD he
      have := anyN_false ha hi
      simp only [Bool.or_eq_false_iff, decide_eq_false_iff_not] at this
      unfold In3 cU cV
      omega
    · exact .t rfl fun h => by cases h
  exact key.ok
theorem k16 (hl : List (List AV)) (st lo hi u v : Int) (hs : 0 ≤ st ∧ st ≤ 1000) (h1 : 0 ≤ lo ∧ lo ≤ 2000) (h2 : lo ≤ hi ∧ hi ≤ 2000) (hlen : hl.length ≤ 20) (hn : nearX hl) (hu : In3 u) (hv' : In3 v) : g16 hl st lo hi u v = true ∧ w16_0 hl st lo hi u v = thickX hl st lo hi u v := by
  have h : r16a hl st lo hi u v 0 hi 0 = some (.x0 (hl.foldl (hill st lo u v) hi) (hl.length : Int)) := by
    refine (run_from0 (step := fun x => stp16a hl st lo hi u v 0 x.t9 x.t10) (y := .x0 (hl.foldl (hill st lo u v) hi) (hl.length : Int)) (m := hl.length)
      (fun k => (⟨(hl.take k).foldl (hill st lo u v) hi, (k : Int)⟩ : S16a)) (fun k hk => ?_) ?_)
    · have he := hn _ (getD_mem hk)
      obtain ⟨f1, f2⟩ := far3_eq hu hv' he.1 he.2
      have f0 := farX_nonneg u v (cU (hl.getD k [])) (cV (hl.getD k []))
      have m := mulb hs.1 hs.2 f0 f2
      have hh := hv_le (hl.getD k [])
      have e38 : w38_0 u v (fI (hl.getD k []) 0) (fI (hl.getD k []) 1) = farX u v (cU (hl.getD k [])) (cV (hl.getD k [])) := by
        rw [← f1]
        unfold w38_0 t38 farI
        rfl
      have e2 : ∀ n, bmin n (IntKind.i64.wrap (bmax lo ((IntKind.i64.wrap (fI (hl.getD k []) 2)).tmod 2001) + IntKind.i64.wrap (st * w38_0 u v (fI (hl.getD k []) 0) (fI (hl.getD k []) 1)))) = hill st lo u v n (hl.getD k []) := fun n => by
        rw [e38, wrap64 (show -9223372036854775808 ≤ st * farX u v (cU (hl.getD k [])) (cV (hl.getD k [])) by omega) (by omega), bmax_max, bmin_min]
        unfold hill
        rw [wrap64 (by unfold hv at hh; omega) (by unfold hv at hh; omega)]
        rfl
      unfold stp16a
      simp only [lt_true hk, inb_true hk, wrap_succ (show k < 9223372036854775807 by omega), Int.toNat_natCast, cond_true, fold_succ hk, e2]
    · unfold stp16a
      simp only [lt_false, List.take_length, cond_false]
  refine TrP.ok (t := t16 hl st lo hi u v) (p := fun x => x = thickX hl st lo hi u v) ?_
  unfold t16 i16a_0 v16a_0_t9
  rw [h]
  refine .t rfl ?_
  show bmax _ _ = _
  rw [bmax_max]
  rfl

def aft (lo hi : Int) (m : Mk) : Mk := ⟨m.u, m.v, max (m.lo - hi) 0, max (m.hi - lo) 0⟩
theorem k39 {a b lo hi : Int} (h1 : 0 ≤ a ∧ a ≤ 2000) (h2 : 0 ≤ b ∧ b ≤ 2000) (h3 : 0 ≤ lo ∧ lo ≤ 2000) (h4 : 0 ≤ hi ∧ hi ≤ 2000) : w39_0 a b lo hi = max (a - hi) 0 ∧ w39_1 a b lo hi = max (b - lo) 0 := by
  have e1 : w39_0 a b lo hi = bmax (IntKind.i64.wrap (a - hi)) 0 := by unfold w39_0 t39; rfl
  have e2 : w39_1 a b lo hi = bmax (IntKind.i64.wrap (b - lo)) 0 := by unfold w39_1 t39; rfl
  rw [e1, e2, bmax_max, bmax_max, wrap64 (by omega) (by omega), wrap64 (by omega) (by omega)]
  exact ⟨rfl, rfl⟩
theorem k17 {os hs : List (List AV)} {st tl th : Int} {L : List Mk} {lo hi gn : Int} (ho : okS os = true) (hF : Fine os hs st tl th L) (h1 : 0 ≤ lo ∧ lo ≤ hi ∧ hi ≤ 2000) (h2 : 0 ≤ gn ∧ gn ≤ 1000) (h3 : st + gn ≤ 1000) :
    g17 V0 os hs st tl th (L.map en) lo hi gn = true ∧ (t17 V0 os hs st tl th (L.map en) lo hi gn).val = (os, hs, st + gn, max (tl - hi) 0, max (th - lo) 0, (L.map (aft lo hi)).map en, 0) := by
  have hst := hF.ste
  have hsp := hF.sp
  have h12 := out_len hF.out
  have h6 := hF.six
  have h40 := hF.len
  have hlm : (L.map en).length = L.length := List.length_map _
  have hw : IntKind.i64.wrap (st + gn) = st + gn := wrap64 (by omega) (by omega)
  have hr : r17a lo hi 0 ((L.map en).length : Int) os hs (st + gn) (w39_0 tl th lo hi) (w39_1 tl th lo hi) (L.map en).length 0 0 0 0 (L.map en) = some (.x0 (L.length : Int) ((L.map (aft lo hi)).map en)) := by
    have := run_from0 (step := fun x => stp17a lo hi 0 ((L.map en).length : Int) os hs (st + gn) (w39_0 tl th lo hi) (w39_1 tl th lo hi) (L.map en).length 0 0 0 x.t49 x.ms) (y := .x0 (L.length : Int) ((L.map (aft lo hi)).map en)) (m := L.length)
      (fun k => (⟨(k : Int), ((L.take k).map (aft lo hi) ++ L.drop k).map en⟩ : S17a)) (fun k hk => ?_) ?_
    · unfold r17a
      rw [← this]
      simp
    · have hm := hF.marks _ (gm_mem hk)
      have hll : (((L.take k).map (aft lo hi) ++ L.drop k).map en).length = L.length := by simp; omega
      have hll' : ((L.take k).map (aft lo hi) ++ L.drop k).length = L.length := by simp; omega
      have hg : gm ((L.take k).map (aft lo hi) ++ L.drop k) k = gm L k := by
        unfold gm
        rw [List.getD_eq_getElem?_getD, List.getD_eq_getElem?_getD, List.getElem?_append_right (by simp; omega)]
        simp only [List.length_map, List.length_take, List.getElem?_drop]
        congr 2
        omega
      have e : (((L.take k).map (aft lo hi) ++ L.drop k).map en).getD k [] = en (gm L k) := by
        rw [map_getD (by omega), hg]
      have hb : (k : Nat).blt (((L.take k).map (aft lo hi) ++ L.drop k).map en).length = true := nblt (by omega)
      have hset : ((L.take k).map (aft lo hi) ++ L.drop k).set k (aft lo hi (gm L k)) = (L.take (k + 1)).map (aft lo hi) ++ L.drop (k + 1) := by
        have this : k - ((L.take k).map (aft lo hi)).length = 0 := by simp; omega
        rw [List.set_append_right _ _ (by simp; omega), this, gm_drop hk, List.set_cons_zero, List.take_add_one, List.map_append, List.append_assoc, show L[k]? = some (gm L k) by simp [gm, List.getD_eq_getElem?_getD, hk]]
        rfl
      obtain ⟨q1, q2⟩ := k39 (a := (gm L k).lo) (b := (gm L k).hi) (lo := lo) (hi := hi) (by omega) (by omega) (by omega) (by omega)
      unfold stp17a
      simp only [lt_true (show k < (L.map en).length by omega), inb_true (show k < (L.map en).length by omega), wrap_succ (show k < 9223372036854775807 by omega), Int.toNat_natCast, cond_true, Nat.zero_add, hb, Bool.and_self, e]
      rw [show fI (en (gm L k)) 2 = (gm L k).lo from rfl, show fI (en (gm L k)) 3 = (gm L k).hi from rfl, q1, q2, set_en, map_set]
      show Lp.go (⟨_, (((L.take k).map (aft lo hi) ++ L.drop k).set k (aft lo hi (gm L k))).map en⟩ : S17a) = _
      rw [hset]
    · unfold stp17a
      rw [hlm, lt_false]
      simp
  refine TrP.ok (t := t17 V0 os hs st tl th (L.map en) lo hi gn) (p := fun x => x = (os, hs, st + gn, max (tl - hi) 0, max (th - lo) 0, (L.map (aft lo hi)).map en, 0)) ?_
  unfold t17
  refine .t (k15 os hs st tl th _ ho).1 ?_
  show TrP _ (.cn (w15_0 os hs st tl th (L.map en) != 0) _ _)
  rw [(k15 os hs st tl th _ ho).2, check_fine.2 hF]
  refine .f rfl (.t (k37 _ _ _).1 ?_)
  rw [(k37 _ _ _).2, spB_true.2 h1]
  refine .f rfl (.t (k22 _ _ _).1 ?_)
  rw [(k22 _ _ _).2, inB_true.2 h2, hw]
  refine .f rfl (.f (decide_eq_false (by omega)) (.t (by rw [hlm]; simp [nble (show os.length * 16 ≤ 140737488355328 by omega), nble (show hs.length * 32 ≤ 140737488355328 by omega), nble (show L.length * 32 ≤ 140737488355328 by omega)]) ?_))
  unfold i17a_0 v17a_0_m26
  rw [hr]
  obtain ⟨q1, q2⟩ := k39 (a := tl) (b := th) (lo := lo) (hi := hi) (by omega) (by omega) (by omega) (by omega)
  refine .t rfl (.t ?_ ?_)
  · show Nat.ble (0 + (L.map en).length) ((L.map (aft lo hi)).map en).length = true
    exact nble (by simp)
  · show (_, _, _, _, _, (bif (L.map en).length.beq ((L.map (aft lo hi)).map en).length then _ else _), _) = _
    rw [q1, q2, show (L.map en).length.beq ((L.map (aft lo hi)).map en).length = true by simp]
    rfl
end Go.Proofs.Ytoglnllbopcejaa

set_option maxRecDepth 100000
set_option linter.unusedVariables false
namespace Go.Proofs.Ytoglnllbopcejaa
open Go Go.Ev
def tau (hl : List (List AV)) (st tl th gone u v : Int) : Int := max 0 (thickX hl st tl th u v - gone)
theorem tau_lip {hl : List (List AV)} {st tl th gone : Int} (hs : 0 ≤ st) (u v u' v' : Int) : tau hl st tl th gone u v ≤ tau hl st tl th gone u' v' + st * farX u v u' v' := by
  have := thick_lip (hl := hl) (lo := tl) (hi := th) hs u v u' v'
  have h0 : 0 ≤ st * farX u v u' v' := Int.mul_nonneg hs (farX_nonneg _ _ _ _)
  unfold tau
  omega
theorem fine_tau {os hs : List (List AV)} {st tl th : Int} {L M : List Mk} {tl' th' : Int} {t : Int → Int → Int} (hF : Fine os hs st tl th L) (ht : ∀ u v u' v', t u v ≤ t u' v' + st * farX u v u' v') (hsp : 0 ≤ tl' ∧ th' ≤ 2000) (hin : ∀ u v, tl' ≤ t u v ∧ t u v ≤ th')
    (hl : M.length ≤ 40) (hS : Sorted M) (hm : ∀ m, m ∈ M → hasB os hs m.u m.v = true ∧ 0 ≤ m.lo ∧ m.hi ≤ 2000 ∧ m.lo ≤ t m.u m.v ∧ t m.u m.v ≤ m.hi) : Fine os hs st tl' th' M := by
  have h0 := hin 0 0
  refine ⟨hF.out, hF.six, hF.holes, hF.ste, ⟨hsp.1, by omega, hsp.2⟩, hl, fun m h => ?_, hS, fun m h => ?_⟩
  · obtain ⟨a, b, c, d, e⟩ := hm m h
    exact ⟨a, b, by omega, c⟩
  · obtain ⟨a, b, c, d, e⟩ := hm m h
    have hi := hin m.u m.v
    refine ⟨by omega, by omega, fun k hk => ?_⟩
    obtain ⟨a', b', c', d', e'⟩ := hm k hk
    have := ht m.u m.v k.u k.v
    omega
structure Tru (os hs hl : List (List AV)) (st tl th : Int) (i : Nat) (gone tl' th' : Int) (M : List Mk) : Prop where
  fine : Fine os hs st tl' th' M
  g : 0 ≤ gone ∧ gone ≤ 10 * (i : Int)
  sp : ∀ u v, tl' ≤ tau hl st tl th gone u v ∧ tau hl st tl th gone u v ≤ th'
  mrk : ∀ m, m ∈ M → m.lo ≤ tau hl st tl th gone m.u m.v ∧ tau hl st tl th gone m.u m.v ≤ m.hi
theorem tru_probe {os hs hl : List (List AV)} {st tl th : Int} {i : Nat} {gone tl' th' : Int} {M : List Mk} (h : Tru os hs hl st tl th i gone tl' th' M) {u v rd wr : Int} (h1 : 0 ≤ rd ∧ rd ≤ 2000) (h2 : 0 ≤ wr ∧ wr ≤ 2000)
    (h3 : rd - wr ≤ tau hl st tl th gone u v) (h4 : tau hl st tl th gone u v ≤ rd + wr) : probeX os hs st tl' th' M u v rd wr = noSk 7 ∨ probeX os hs st tl' th' M u v rd wr = noSk 3 ∨
    (probeX os hs st tl' th' M u v rd wr = (os, hs, st, tl', th', (insM (pr u v rd wr) M).map en, 0) ∧ Tru os hs hl st tl th i gone tl' th' (insM (pr u v rd wr) M)) := by
  have h0 : 0 ≤ tau hl st tl th gone u v := by unfold tau; omega
  have h5 := (h.sp u v).2
  have hsp := h.fine.sp
  cases hq : hasB os hs u v
  · left
    unfold probeX
    rw [check_fine.2 h.fine, hq]
    rfl
  · by_cases hlen : (insM (pr u v rd wr) M).length ≤ 40
    · right; right
      have hm : ∀ m, m ∈ insM (pr u v rd wr) M → hasB os hs m.u m.v = true ∧ 0 ≤ m.lo ∧ m.hi ≤ 2000 ∧ m.lo ≤ tau hl st tl th gone m.u m.v ∧ tau hl st tl th gone m.u m.v ≤ m.hi := fun m hm => by
        rcases mem_insM hm with rfl | hm | ⟨k, hk, hat, rfl⟩
        · exact ⟨hq, by show 0 ≤ max (rd - wr) 0; omega, by show min (rd + wr) 2000 ≤ 2000; omega, by show max (rd - wr) 0 ≤ tau hl st tl th gone u v; omega, by show tau hl st tl th gone u v ≤ min (rd + wr) 2000; omega⟩
        · have a := h.fine.marks m hm
          have b := h.mrk m hm
          exact ⟨a.1, a.2.1, a.2.2.2, b.1, b.2⟩
        · have a := h.fine.marks k hk
          have b := h.mrk k hk
          have e1 : k.u = u := hat.1
          have e2 : k.v = v := hat.2
          rw [e1, e2] at b
          refine ⟨a.1, by show 0 ≤ max k.lo (max (rd - wr) 0); omega, by show min k.hi (min (rd + wr) 2000) ≤ 2000; omega, ?_, ?_⟩
          · show max k.lo (max (rd - wr) 0) ≤ tau hl st tl th gone k.u k.v
            rw [e1, e2]; omega
          · show tau hl st tl th gone k.u k.v ≤ min k.hi (min (rd + wr) 2000)
            rw [e1, e2]; omega
      have hG : Fine os hs st tl' th' (insM (pr u v rd wr) M) := fine_tau h.fine (fun _ _ _ _ => tau_lip h.fine.ste.1 _ _ _ _) ⟨hsp.1, hsp.2.2⟩ h.sp hlen (insM_sorted h.fine.srt) hm
      exact ⟨probeX_fine h.fine hq h1 h2 hG, hG, h.g, h.sp, fun m hm' => (hm m hm').2.2.2⟩
    · right; left
      unfold probeX
      rw [check_fine.2 h.fine, hq, inB_true.2 h1, inB_true.2 h2, show decide (((insM (pr u v rd wr) M).length : Int) > 40) = true from decide_eq_true (by omega)]
      rfl
theorem tau_less {hl : List (List AV)} {st tl th gone take u v : Int} (h : 0 ≤ take) : tau hl st tl th (gone + take) u v = max 0 (tau hl st tl th gone u v - take) := by
  unfold tau
  omega
theorem tru_season {os hs hl : List (List AV)} {st tl th : Int} {i : Nat} {gone tl' th' : Int} {M : List Mk} (h : Tru os hs hl st tl th i gone tl' th' M) {take : Int} (ht : 5 ≤ take ∧ take ≤ 10) : Tru os hs hl st tl th (i + 1) (gone + take) (max (tl' - 10) 0) (max (th' - 5) 0) (M.map (aft 5 10)) := by
  have hsp := h.fine.sp
  have hin : ∀ u v, max (tl' - 10) 0 ≤ tau hl st tl th (gone + take) u v ∧ tau hl st tl th (gone + take) u v ≤ max (th' - 5) 0 := fun u v => by
    have := h.sp u v
    rw [tau_less (by omega)]
    omega
  have hm : ∀ m, m ∈ M.map (aft 5 10) → hasB os hs m.u m.v = true ∧ 0 ≤ m.lo ∧ m.hi ≤ 2000 ∧ m.lo ≤ tau hl st tl th (gone + take) m.u m.v ∧ tau hl st tl th (gone + take) m.u m.v ≤ m.hi := fun m hm => by
    obtain ⟨k, hk, rfl⟩ := List.mem_map.1 hm
    have a := h.fine.marks k hk
    have b := h.mrk k hk
    refine ⟨a.1, by show 0 ≤ max (k.lo - 10) 0; omega, by show max (k.hi - 5) 0 ≤ 2000; omega, ?_, ?_⟩
    · show max (k.lo - 10) 0 ≤ tau hl st tl th (gone + take) k.u k.v
      rw [tau_less (by omega)]; omega
    · show tau hl st tl th (gone + take) k.u k.v ≤ max (k.hi - 5) 0
      rw [tau_less (by omega)]; omega
  have hS : Sorted (M.map (aft 5 10)) := by
    unfold Sorted
    rw [List.pairwise_map]
    exact h.fine.srt
  refine ⟨fine_tau h.fine (fun _ _ _ _ => tau_lip h.fine.ste.1 _ _ _ _) ⟨by omega, by omega⟩ hin (by rw [List.length_map]; exact h.fine.len) hS hm, ?_, hin, fun m hm' => (hm m hm').2.2.2⟩
  have := h.g
  omega
theorem tru_bounds {os hs hl : List (List AV)} {st tl th : Int} {i : Nat} {gone tl' th' : Int} {M : List Mk} (h : Tru os hs hl st tl th i gone tl' th' M) {u v : Int} (hu : In4 u) (hv : In4 v) : loX st tl' M u v ≤ tau hl st tl th gone u v ∧ tau hl st tl th gone u v ≤ hiX st th' M u v := by
  have hin := h.sp u v
  have hlip : ∀ a b c d, tau hl st tl th gone a b ≤ tau hl st tl th gone c d + st * farX a b c d := fun a b c d => tau_lip h.fine.ste.1 a b c d
  constructor
  · rcases loX_is h.fine hu hv with e | ⟨m, hm, e⟩
    · omega
    · have := (h.mrk m hm).1
      have := hlip m.u m.v u v
      rw [farX_sym m.u m.v u v] at this
      omega
  · rcases hiX_is h.fine hu hv with e | ⟨m, hm, e⟩
    · omega
    · have := (h.mrk m hm).2
      have := hlip u v m.u m.v
      omega
theorem tru_next {os hs hl : List (List AV)} {st tl th : Int} {i : Nat} {gone tl' th' : Int} {M : List Mk} (h : Tru os hs hl st tl th i gone tl' th' M) : Tru os hs hl st tl th (i + 1) gone tl' th' M :=
  ⟨h.fine, by have := h.g; omega, h.sp, h.mrk⟩
theorem true_val (os hs : List (List AV)) (st tl th : Int) (L P : List Mk) (hl : List (List AV)) (u v : Int) (hp : plainS os) (hlen : hl.length ≤ 9223372036854775807) : g6 os hs st tl th (L.map en) hl (P.map en) u v = true ∧ w6_0 os hs st tl th (L.map en) hl (P.map en) u v = true := by
  have hlm : (P.map en).length = P.length := List.length_map _
  refine TrP.ok (t := t6 os hs st tl th (L.map en) hl (P.map en) u v) (p := fun x => x = true) ?_
  unfold t6
  refine .t (k7 os hs st tl th _).1 ?_
  show TrP _ (.cn (w7_0 os hs st tl th (L.map en)) _ _)
  rw [(k7 os hs st tl th _).2]
  cases hg : greatB os hs (L.map en)
  · obtain ⟨l1, l2, l3⟩ := great_len hg
    have ho := okS_of hp l1
    refine .f rfl (.cn (fun _ => rfl) (fun hL => .cn (fun _ => rfl) (fun h20 => .t (k14 hl hlen).1 (.cn (fun _ => rfl) (fun hn => .t (k15 os hs st tl th _ ho).1 ?_)))))
    have hL : L = [] := by
      have : ¬ (((L.map en).length : Nat) : Int) > 0 := of_decide_eq_false hL
      rw [List.length_map] at this
      exact List.eq_nil_of_length_eq_zero (by omega)
    subst hL
    have h20 : P.length ≤ 20 := by have := of_decide_eq_false h20; omega
    have hn : LTc.V.w14 hl = true := by simpa using hn
    obtain ⟨n20, hn⟩ := (k14 hl hlen).2 hn
    show TrP _ (.cn (w15_0 os hs st tl th _ != 0) _ _)
    rw [(k15 os hs st tl th _ ho).2]
    refine .cn (fun _ => rfl) (fun hc => ?_)
    have hF : Fine os hs st tl th [] := check_fine.1 (by simpa using hc : checkW os hs (List.map en []) st tl th = 0)
    have hst := hF.ste
    have hsp := hF.sp
    have e16 : ∀ {a b}, In3 a → In3 b → LTc.V.g16 hl st tl th a b = true ∧ LTc.V.w16 hl st tl th a b = thickX hl st tl th a b := fun ha hb => k16 hl st tl th _ _ hst (by omega) (by omega) n20 hn ha hb
    have hT0 : Tru os hs hl st tl th 0 0 tl th [] := ⟨hF, by omega, fun a b => by
      have := thick_in (hl := hl) (st := st) (u := a) (v := b) hsp.2.1
      unfold tau
      omega, fun m hm => by cases hm⟩
    obtain ⟨y, hy, hQ⟩ := run_cnt (step := fun x => stp6a hl (P.map en) u v false os hs st tl th (List.map en []) x.t10 x.t11 x.os x.hs x.st x.tl x.th x.ms) P.length
      (fun i x => ∃ gone tl' th' M, x = ⟨gone, (i : Int), os, hs, st, tl', th', M.map en⟩ ∧ Tru os hs hl st tl th i gone tl' th' M)
      (fun y => match y with
        | .x0 b _ _ _ _ _ _ _ _ => b = true
        | .x1 gone _ a b c d e f => a = os ∧ b = hs ∧ c = st ∧ ∃ M, f = M.map en ∧ Tru os hs hl st tl th P.length gone d e M)
      (fun i x hi hx => by
        obtain ⟨gone, tl', th', M, rfl, hT⟩ := hx
        unfold stp6a
        simp only [lt_true (show i < (P.map en).length by omega), inb_true (show i < (P.map en).length by omega), Int.toNat_natCast, map_getD hi, cond_true, wrap_succ (show i < 9223372036854775807 by omega)]
        rw [show fI (en (gm P i)) 0 = (gm P i).u from rfl, show fI (en (gm P i)) 1 = (gm P i).v from rfl, show fI (en (gm P i)) 2 = (gm P i).lo from rfl, show fI (en (gm P i)) 3 = (gm P i).hi from rfl]
        generalize gm P i = x
        refine LpOK.cond (fun _ => rfl) (fun c1 => LpOK.cond (fun _ => rfl) (fun c2 => LpOK.cond (fun _ => rfl) (fun c3 => LpOK.cond (fun _ => rfl) (fun c4 => LpOK.cond (fun _ => rfl) (fun c5 => LpOK.cond (fun _ => rfl) (fun c6 => ?_))))))
        have c1 := of_decide_eq_false c1
        have c2 := of_decide_eq_false c2
        have c3 := of_decide_eq_false c3
        have c4 := of_decide_eq_false c4
        have c5 := of_decide_eq_false c5
        have c6 := of_decide_eq_false c6
        have hx3 : In3 x.u ∧ In3 x.v := by unfold In3; omega
        have hw : IntKind.i64.wrap (x.hi + 1) = x.hi + 1 := wrap64 (by omega) (by omega)
        have hg := hT.g
        have hin := thick_in (hl := hl) (st := st) (u := x.u) (v := x.v) hsp.2.1
        have hoff : -x.hi ≤ x.lo.tmod (x.hi + 1) ∧ x.lo.tmod (x.hi + 1) ≤ x.hi := by
          by_cases h : 0 ≤ x.lo
          · have h1 := Int.tmod_nonneg (a := x.lo) (x.hi + 1) h
            have h2 := Int.tmod_lt_of_pos x.lo (b := x.hi + 1) (by omega)
            omega
          · have e : x.lo.tmod (x.hi + 1) = -((-x.lo).tmod (x.hi + 1)) := by rw [Int.neg_tmod]; omega
            have h1 := Int.tmod_nonneg (a := -x.lo) (x.hi + 1) (by omega)
            have h2 := Int.tmod_lt_of_pos (-x.lo) (b := x.hi + 1) (by omega)
            omega
        rw [(e16 hx3.1 hx3.2).1, (e16 hx3.1 hx3.2).2, hw]
        generalize x.lo.tmod (x.hi + 1) = off at hoff ⊢
        have htau : bmax 0 (IntKind.i64.wrap (thickX hl st tl th x.u x.v - gone)) = tau hl st tl th gone x.u x.v := by
          rw [wrap64 (by omega) (by omega), bmax_max]
          rfl
        rw [htau]
        have ht := hT.sp x.u x.v
        have hsp' := hT.fine.sp
        have hrd : bmin 2000 (bmax 0 (IntKind.i64.wrap (tau hl st tl th gone x.u x.v + off))) = min 2000 (max 0 (tau hl st tl th gone x.u x.v + off)) := by
          rw [wrap64 (by omega) (by omega), bmax_max, bmin_min]
        rw [hrd]
        have h0 : 0 ≤ tau hl st tl th gone x.u x.v := by unfold tau; omega
        have hp := tru_probe hT (u := x.u) (v := x.v) (rd := min 2000 (max 0 (tau hl st tl th gone x.u x.v + off))) (wr := x.hi) (by omega) (by omega) (by omega) (by omega)
        have e9 : LTc.V.g9 os hs st tl' th' (M.map en) x.u x.v (min 2000 (max 0 (tau hl st tl th gone x.u x.v + off))) x.hi = true := (k9 os hs st tl' th' M _ _ _ _ ho).1
        have p9 : LTc.V.p9 os hs st tl' th' (M.map en) x.u x.v (min 2000 (max 0 (tau hl st tl th gone x.u x.v + off))) x.hi = probeX os hs st tl' th' M x.u x.v (min 2000 (max 0 (tau hl st tl th gone x.u x.v + off))) x.hi := (k9 os hs st tl' th' M _ _ _ _ ho).2
        rw [show decide (x.hi + 1 = 0) = false from decide_eq_false (by omega), e9, p9]
        simp only [cond_true, cond_false]
        rcases hp with hp | hp | ⟨hp, hT2⟩
        · rw [hp]
          exact ⟨gone, tl', th', M, rfl, tru_next hT⟩
        · rw [hp]
          exact ⟨gone, tl', th', M, rfl, tru_next hT⟩
        · rw [hp]
          simp only [show ((0 : Int) == 7) = false from rfl, show ((0 : Int) == 3) = false from rfl, show ((0 : Int) != 0) = false from rfl, cond_false]
          refine LpOK.cond (fun _ => ?_) (fun _ => ?_)
          · have hk := k17 ho hT2.fine (lo := 5) (hi := 10) (gn := 0) (by decide) (by decide) (by omega)
            have e17 : LTc.V.g17 os hs st tl' th' ((insM (pr x.u x.v (min 2000 (max 0 (tau hl st tl th gone x.u x.v + off))) x.hi) M).map en) 5 10 0 = true := hk.1
            have p17 : LTc.V.p17 os hs st tl' th' ((insM (pr x.u x.v (min 2000 (max 0 (tau hl st tl th gone x.u x.v + off))) x.hi) M).map en) 5 10 0 = _ := hk.2
            rw [e17, p17]
            simp only [cond_true, show ((0 : Int) != 0) = false from rfl, cond_false]
            have h6 : 0 ≤ (bmax 0 off).tmod 6 ∧ (bmax 0 off).tmod 6 ≤ 5 := by
              rw [bmax_max]
              have h1 := Int.tmod_nonneg (a := max 0 off) 6 (by omega)
              have h2 := Int.tmod_lt_of_pos (max 0 off) (b := 6) (by decide)
              omega
            generalize (bmax 0 off).tmod 6 = z at h6 ⊢
            rw [wrap64 (x := 5 + z) (by omega) (by omega), wrap64 (x := gone + (5 + z)) (by omega) (by omega), Int.add_zero]
            exact ⟨_, _, _, _, rfl, tru_season hT2 (take := 5 + z) (by omega)⟩
          · exact ⟨_, _, _, _, rfl, tru_next hT2⟩)
      (fun x hx => by
        obtain ⟨gone, tl', th', M, rfl, hT⟩ := hx
        unfold stp6a
        simp only [show decide ((P.length : Int) < ((P.map en).length : Int)) = false from decide_eq_false (by omega), cond_false]
        exact ⟨rfl, rfl, rfl, M, rfl, hT⟩)
      ⟨0, 0, os, hs, st, tl, th, List.map en []⟩ ⟨0, tl, th, [], rfl, hT0⟩
    have hy : r6a hl (P.map en) u v false os hs st tl th (List.map en []) 0 0 os hs st tl th (List.map en []) = some y := hy
    unfold i6a_0 i6a_1 v6a_0_t8' v6a_1_m0_0 v6a_1_m0_1 v6a_1_m0_2 v6a_1_m0_3 v6a_1_m0_4 v6a_1_m0_5 v6a_1_t10
    rw [hy]
    cases y with
    | x0 => exact .t rfl hQ
    | x1 gone _ a b c d e f =>
      obtain ⟨rfl, rfl, rfl, M, rfl, hT⟩ := hQ
      have e13 : LTc.V.p13 a b c d e (M.map en) u v = boundsX a b c d e M u v := (k13 a b c d e M u v ho).2
      refine .f rfl (.t rfl (.t (k13 a b c d e M u v ho).1 ?_))
      simp only []
      rw [e13, boundsX_fine hT.fine]
      cases hq : hasB a b u v
      · exact .t rfl (.t rfl rfl)
      · obtain ⟨u4, v4⟩ := has_in hq
        have u3 : In3 u := by unfold In4 at u4; unfold In3; omega
        have v3 : In3 v := by unfold In4 at v4; unfold In3; omega
        have hg := hT.g
        have hin := thick_in (hl := hl) (st := c) (u := u) (v := v) hsp.2.1
        obtain ⟨b1, b2⟩ := tru_bounds hT u4 v4
        refine .f rfl (.t (e16 u3 v3).1 ?_)
        rw [(e16 u3 v3).2, wrap64 (by omega) (by omega), bmax_max]
        exact .t (decide_eq_true b1) (.t (decide_eq_true b2) rfl)
  · exact .t rfl rfl
theorem hills_of {a : AV} (h : TyArg Try.prog 48 a) : ∃ hl, a = .rs 76 hl ∧ hl.length ≤ 9223372036854775807 := by
  obtain ⟨es, rfl, m1, m2, m3⟩ := WT_sl (ty_one (c := .sl 76) (by kernel_rfl) (by kernel_rfl) h)
  exact ⟨es, rfl, m1⟩
theorem wearTrue_law (avs : List AV) (h : TyArgs Try.prog Try.f6.params.toList avs) : Con Try.prog 6 avs [] (.b true) [] := by
  obtain ⟨a0, r0, rfl, h0, h⟩ := tyArgs_cons h
  obtain ⟨a1, r1, rfl, h1, h⟩ := tyArgs_cons h
  obtain ⟨a2, r2, rfl, h2, h⟩ := tyArgs_cons h
  obtain ⟨a3, r3, rfl, h3, h⟩ := tyArgs_cons h
  obtain rfl := tyArgs_nil h
  obtain ⟨os, hs, st, tl, th, L, rfl, hp⟩ := skin_of h0
  obtain ⟨hl, rfl, hlen⟩ := hills_of h1
  obtain ⟨P, rfl, _⟩ := readings_of h2
  obtain ⟨u, v, rfl, _⟩ := pt_of h3
  obtain ⟨q1, q2⟩ := true_val os hs st tl th L P hl u v hp hlen
  have := con6 os hs st tl th (L.map en) hl (P.map en) u v q1
  rw [q2] at this
  exact this
end Go.Proofs.Ytoglnllbopcejaa
