/-
  The evaluator, its soundness, and the functions that several laws reach: what they compute, for all arguments; no conditions.
-/
import Derived.Test.YtoglnllbopcejaaPe
import Derived.Test.YtoglnllbopcejaaPc
import Derived.Test.YtoglnllbopcejaaPd
set_option linter.unusedVariables false
set_option maxRecDepth 100000
set_option maxHeartbeats 0
set_option linter.unusedVariables false
namespace Go.Proofs.Ytoglnllbopcejaa
open Go Go.Ev

noncomputable def c17 : Code := match Try.f17.body with | some c => c | _ => .skip
noncomputable def lp17a : Code := loopAt c17 [true, true, true, true, true, true, false, true, false]
noncomputable def s17a (lo hi t7 t48 t49 : Int) (os hs : List (List AV)) (m0_2 m0_3 m0_4 : Int) (m0_5 : Nat) (m2_0 m2_1 m2_2 : Int) (ms : List (List AV)) : St :=
  { t := [(3, .p 0 0 0), (4, .rp [.int .i64, .int .i64] [.i .i64 lo, .i .i64 hi] 0), (6, .p 2 0 0), (7, .i .i64 t7), (48, .i .i64 t48), (49, .i .i64 t49)], m := [(0, .lrow 30 [[.rs 32 os, .rs 55 hs, .i .i64 m0_2, .i .i64 m0_3, .i .i64 m0_4, .sl 26 0 m0_5]]), (1, .dead), (2, .lrow 30 [[.nl, .nl, .i .i64 m2_0, .i .i64 m2_1, .i .i64 m2_2, .nl]]), (3, .dead), (4, .dead), (5, .dead), (6, .dead), (7, .dead), (8, .dead), (9, .dead), (10, .dead), (11, .dead), (12, .dead), (13, .dead), (14, .dead), (15, .dead), (16, .dead), (17, .dead), (18, .dead), (19, .dead), (20, .dead), (21, .dead), (22, .dead), (23, .dead), (24, .dead), (25, .dead), (26, .row 67 ms)], nx := 27, nt := 67 }
structure S17a where
  t49 : Int
  ms : List (List AV)
inductive T17a where
  | x0 (t49 : Int) (m26 : List (List AV))
noncomputable def stp17a (lo hi t7 t48 : Int) (os hs : List (List AV)) (m0_2 m0_3 m0_4 : Int) (m0_5 : Nat) (m2_0 m2_1 m2_2 t49 : Int) (ms : List (List AV)) : Lp S17a T17a :=
  cond (decide (t49 < t48)) (cond (inb t49 m0_5 && (0 + t49.toNat).blt ms.length) (cond ((0 + t49.toNat).blt ms.length) (cond (inb t49 m0_5 && (0 + t49.toNat).blt ms.length) (cond ((0 + t49.toNat).blt ms.length) (.go ⟨IntKind.i64.wrap (t49 + 1), ms.set (0 + t49.toNat) (setCs (ms.getD (0 + t49.toNat) []) 2 [AV.i IntKind.i64 (w39_0 (fI (ms.getD (0 + t49.toNat) []) 2) (fI (ms.getD (0 + t49.toNat) []) 3) lo hi), AV.i IntKind.i64 (w39_1 (fI (ms.getD (0 + t49.toNat) []) 2) (fI (ms.getD (0 + t49.toNat) []) 3) lo hi)])⟩) (.bad)) (.bad)) (.bad)) (.bad)) (.out (.x0 t49 ms))
noncomputable def o17a_0 (lo hi t7 t48 : Int) (os hs : List (List AV)) (m0_2 m0_3 m0_4 : Int) (m0_5 : Nat) (m2_0 m2_1 m2_2 t49 : Int) (m26 : List (List AV)) : St :=
  { t := [(3, .p 0 0 0), (4, .rp [.int .i64, .int .i64] [.i .i64 lo, .i .i64 hi] 0), (6, .p 2 0 0), (7, .i .i64 t7), (48, .i .i64 t48), (49, .i .i64 t49)], m := [(0, .lrow 30 [[.rs 32 os, .rs 55 hs, .i .i64 m0_2, .i .i64 m0_3, .i .i64 m0_4, .sl 26 0 m0_5]]), (1, .dead), (2, .lrow 30 [[.nl, .nl, .i .i64 m2_0, .i .i64 m2_1, .i .i64 m2_2, .nl]]), (3, .dead), (4, .dead), (5, .dead), (6, .dead), (7, .dead), (8, .dead), (9, .dead), (10, .dead), (11, .dead), (12, .dead), (13, .dead), (14, .dead), (15, .dead), (16, .dead), (17, .dead), (18, .dead), (19, .dead), (20, .dead), (21, .dead), (22, .dead), (23, .dead), (24, .dead), (25, .dead), (26, .row 67 m26)], nx := 27, nt := 67 }
noncomputable def ou17a (lo hi t7 t48 : Int) (os hs : List (List AV)) (m0_2 m0_3 m0_4 : Int) (m0_5 : Nat) (m2_0 m2_1 m2_2 : Int) : T17a → Ex × St
  | .x0 t49 m26 => (.ext 1, o17a_0 lo hi t7 t48 os hs m0_2 m0_3 m0_4 m0_5 m2_0 m2_1 m2_2 t49 m26)
noncomputable def r17a (lo hi t7 t48 : Int) (os hs : List (List AV)) (m0_2 m0_3 m0_4 : Int) (m0_5 : Nat) (m2_0 m2_1 m2_2 t49 : Int) (ms : List (List AV)) : Option T17a := run (fun x => stp17a lo hi t7 t48 os hs m0_2 m0_3 m0_4 m0_5 m2_0 m2_1 m2_2 x.t49 x.ms) (⟨t49, ms⟩ : S17a)
noncomputable def i17a_0 (lo hi t7 t48 : Int) (os hs : List (List AV)) (m0_2 m0_3 m0_4 : Int) (m0_5 : Nat) (m2_0 m2_1 m2_2 t49 : Int) (ms : List (List AV)) : Bool := match r17a lo hi t7 t48 os hs m0_2 m0_3 m0_4 m0_5 m2_0 m2_1 m2_2 t49 ms with
  | some (.x0 _ _) => true
  | _ => false
noncomputable def v17a_0_t49 (lo hi t7 t48 : Int) (os hs : List (List AV)) (m0_2 m0_3 m0_4 : Int) (m0_5 : Nat) (m2_0 m2_1 m2_2 t49 : Int) (ms : List (List AV)) : Int := match r17a lo hi t7 t48 os hs m0_2 m0_3 m0_4 m0_5 m2_0 m2_1 m2_2 t49 ms with
  | some (.x0 t49 _) => t49
  | _ => default
noncomputable def v17a_0_m26 (lo hi t7 t48 : Int) (os hs : List (List AV)) (m0_2 m0_3 m0_4 : Int) (m0_5 : Nat) (m2_0 m2_1 m2_2 t49 : Int) (ms : List (List AV)) : List (List AV) := match r17a lo hi t7 t48 os hs m0_2 m0_3 m0_4 m0_5 m2_0 m2_1 m2_2 t49 ms with
  | some (.x0 _ m26) => m26
  | _ => default
noncomputable def q17a (lo hi t7 t48 t49 : Int) (os hs : List (List AV)) (m0_2 m0_3 m0_4 : Int) (m0_5 : Nat) (m2_0 m2_1 m2_2 : Int) (ms : List (List AV)) : List (Bool × Ex × St) := [(i17a_0 lo hi t7 t48 os hs m0_2 m0_3 m0_4 m0_5 m2_0 m2_1 m2_2 t49 ms, .ext 1, o17a_0 lo hi t7 t48 os hs m0_2 m0_3 m0_4 m0_5 m2_0 m2_1 m2_2 (v17a_0_t49 lo hi t7 t48 os hs m0_2 m0_3 m0_4 m0_5 m2_0 m2_1 m2_2 t49 ms) (v17a_0_m26 lo hi t7 t48 os hs m0_2 m0_3 m0_4 m0_5 m2_0 m2_1 m2_2 t49 ms))]
noncomputable def l17a (st : St) : Option (List (Bool × Ex × St)) := qget [.p 0 0 0, .rp [.int .i64, .int .i64] [.i .i64, .i .i64] 0, .p 2 0 0, .i .i64, .i .i64, .i .i64] [(0, .lrow 30 [.l [.rs 32, .rs 55, .i .i64, .i .i64, .i .i64, .sl 26 0]]), (1, .dead), (2, .lrow 30 [.l [.nl, .nl, .i .i64, .i .i64, .i .i64, .nl]]), (3, .dead), (4, .dead), (5, .dead), (6, .dead), (7, .dead), (8, .dead), (9, .dead), (10, .dead), (11, .dead), (12, .dead), (13, .dead), (14, .dead), (15, .dead), (16, .dead), (17, .dead), (18, .dead), (19, .dead), (20, .dead), (21, .dead), (22, .dead), (23, .dead), (24, .dead), (25, .dead), (26, .rowv 67)] 27 67 (normW Try.prog [(3, none), (4, none), (6, none), (7, none), (48, none), (49, none)] 27 st) fun ls => q17a (lI ls 0) (lI ls 1) (lI ls 2) (lI ls 3) (lI ls 4) (lLL ls 5) (lLL ls 6) (lI ls 7) (lI ls 8) (lI ls 9) (lN ls 10) (lI ls 11) (lI ls 12) (lI ls 13) (lLL ls 14)
noncomputable def L17 : LSpec := fun p st => match p with
  | [false, true, false, true, true, true, true, true, true] => l17a st
  | _ => none
theorem is17a_0 (lo hi t7 t48 : Int) (os hs : List (List AV)) (m0_2 m0_3 m0_4 : Int) (m0_5 : Nat) (m2_0 m2_1 m2_2 t49 : Int) (ms : List (List AV)) (h : i17a_0 lo hi t7 t48 os hs m0_2 m0_3 m0_4 m0_5 m2_0 m2_1 m2_2 t49 ms = true) : r17a lo hi t7 t48 os hs m0_2 m0_3 m0_4 m0_5 m2_0 m2_1 m2_2 t49 ms = some (.x0 (v17a_0_t49 lo hi t7 t48 os hs m0_2 m0_3 m0_4 m0_5 m2_0 m2_1 m2_2 t49 ms) (v17a_0_m26 lo hi t7 t48 os hs m0_2 m0_3 m0_4 m0_5 m2_0 m2_1 m2_2 t49 ms)) := by
  unfold i17a_0 at h
  unfold v17a_0_t49 v17a_0_m26
  generalize r17a lo hi t7 t48 os hs m0_2 m0_3 m0_4 m0_5 m2_0 m2_1 m2_2 t49 ms = r at h ⊢
  rcases r with _ | y
  · cases h
  · cases y <;> first | rfl | cases h
theorem round17a {V : Lv} (lo hi t7 t48 t49 : Int) (os hs : List (List AV)) (m0_2 m0_3 m0_4 : Int) (m0_5 : Nat) (m2_0 m2_1 m2_2 : Int) (ms : List (List AV)) : round Try.prog (SQ V) ro17 L17 lp17a [false, true, false, true, true, true, true, true, true] [(3, none), (4, none), (6, none), (7, none), (48, none), (49, none)] 27 (s17a lo hi t7 t48 t49 os hs m0_2 m0_3 m0_4 m0_5 m2_0 m2_1 m2_2 ms) =
    cond (decide (t49 < t48)) (cond (inb t49 m0_5 && (0 + t49.toNat).blt ms.length) (cond ((0 + t49.toNat).blt ms.length) (cond (inb t49 m0_5 && (0 + t49.toNat).blt ms.length) (cond ((0 + t49.toNat).blt ms.length) (some (.nrm, s17a lo hi t7 t48 (IntKind.i64.wrap (t49 + 1)) os hs m0_2 m0_3 m0_4 m0_5 m2_0 m2_1 m2_2 (ms.set (0 + t49.toNat) (setCs (ms.getD (0 + t49.toNat) []) 2 [AV.i IntKind.i64 (w39_0 (fI (ms.getD (0 + t49.toNat) []) 2) (fI (ms.getD (0 + t49.toNat) []) 3) lo hi), AV.i IntKind.i64 (w39_1 (fI (ms.getD (0 + t49.toNat) []) 2) (fI (ms.getD (0 + t49.toNat) []) 3) lo hi)])))) (none)) (none)) (none)) (none)) (some (.ext 1, o17a_0 lo hi t7 t48 os hs m0_2 m0_3 m0_4 m0_5 m2_0 m2_1 m2_2 t49 ms)) := by kernel_rfl
theorem rnd17a {V : Lv} (lo hi t7 t48 : Int) (os hs : List (List AV)) (m0_2 m0_3 m0_4 : Int) (m0_5 : Nat) (m2_0 m2_1 m2_2 : Int) (x : S17a) : round Try.prog (SQ V) ro17 L17 lp17a [false, true, false, true, true, true, true, true, true] [(3, none), (4, none), (6, none), (7, none), (48, none), (49, none)] 27 ((fun x => s17a lo hi t7 t48 x.t49 os hs m0_2 m0_3 m0_4 m0_5 m2_0 m2_1 m2_2 x.ms) x) = toR (fun x => s17a lo hi t7 t48 x.t49 os hs m0_2 m0_3 m0_4 m0_5 m2_0 m2_1 m2_2 x.ms) (ou17a lo hi t7 t48 os hs m0_2 m0_3 m0_4 m0_5 m2_0 m2_1 m2_2) (stp17a lo hi t7 t48 os hs m0_2 m0_3 m0_4 m0_5 m2_0 m2_1 m2_2 x.t49 x.ms) := by
  refine (round17a _ _ _ _ _ _ _ _ _ _ _ _ _ _ _ ).trans ?_
  unfold stp17a
  simp only [toR_cond]
  rfl
theorem lokb17a {V : Lv} (lo hi t7 t48 t49 : Int) (os hs : List (List AV)) (m0_2 m0_3 m0_4 : Int) (m0_5 : Nat) (m2_0 m2_1 m2_2 : Int) (ms : List (List AV)) {e : Ex} {s : St} (hch : Chosen (q17a lo hi t7 t48 t49 os hs m0_2 m0_3 m0_4 m0_5 m2_0 m2_1 m2_2 ms) e s) : LB Try.prog (SQ V) ro17 L17 lp17a [false, true, false, true, true, true, true, true, true] [(3, none), (4, none), (6, none), (7, none), (48, none), (49, none)] 27 (s17a lo hi t7 t48 t49 os hs m0_2 m0_3 m0_4 m0_5 m2_0 m2_1 m2_2 ms) e s := by
  unfold q17a at hch
  have main := fun y h => LB_run (x := (⟨t49, ms⟩ : S17a)) (y := y) (nb := 27) (fun y => by cases y <;> simp [ou17a]) (rnd17a (V := V) lo hi t7 t48 os hs m0_2 m0_3 m0_4 m0_5 m2_0 m2_1 m2_2) h
  obtain ⟨x, hx, hg, rfl, rfl⟩ := chosen_any hch
  simp only [List.mem_cons, List.not_mem_nil, or_false] at hx
  subst hx
  exact main _ (is17a_0 lo hi t7 t48 os hs m0_2 m0_3 m0_4 m0_5 m2_0 m2_1 m2_2 t49 ms hg)
theorem lok17a {V : Lv} {st : St} {outs : List (Bool × Ex × St)} {e : Ex} {s : St} (hl : l17a st = some outs) (hch : Chosen outs e s) :
    ∃ keep nb, 0 ≤ nb ∧ LB Try.prog (SQ V) ro17 L17 lp17a [false, true, false, true, true, true, true, true, true] keep nb st e s := by
  unfold l17a at hl
  obtain ⟨ls, hno, rfl⟩ := qget_some hl
  have hno := normW_norm hno
  refine ⟨_, _, ?_, .enterQ hno (s2 := s17a (lI ls 0) (lI ls 1) (lI ls 2) (lI ls 3) (lI ls 4) (lLL ls 5) (lLL ls 6) (lI ls 7) (lI ls 8) (lI ls 9) (lN ls 10) (lI ls 11) (lI ls 12) (lI ls 13) (lLL ls 14)) (by kernel_rfl) (lokb17a _ _ _ _ _ _ _ _ _ _ _ _ _ _ _ hch)⟩
  decide
theorem L17_ok {V : Lv} (q : Pl) (c : Code) (hq : locate c17 q.reverse = some (.loop c)) (st : St) (outs : List (Bool × Ex × St)) (e : Ex) (s : St) (hl : L17 q st = some outs) (hch : Chosen outs e s) :
    ∃ keep nb, 0 ≤ nb ∧ LB Try.prog (SQ V) ro17 L17 c q keep nb st e s := by
  unfold L17 at hl
  split at hl
  · have : locate c17 ([false, true, false, true, true, true, true, true, true] : Pl).reverse = some (.loop lp17a) := by kernel_rfl
    rw [this] at hq
    cases hq
    exact lok17a hl hch
  · cases hl
theorem lok17 {V : Lv} : LOK Try.prog (SQ V) ro17 L17 0 false c17 [] :=
  lok_lo L17_ok c17 [] false (locate_nil _) (by kernel_rfl)
noncomputable def t17 (V : Lv) (os hs : List (List AV)) (st tl th : Int) (ms : List (List AV)) (lo hi gn : Int) : Tr ((List (List AV)) × (List (List AV)) × (Int) × (Int) × (Int) × (List (List AV)) × (Int)) :=
  .cn (V.g15 os hs st tl th ms) (.cn (V.w15 os hs st tl th ms != 0) (.lf ([], [], 0, 0, 0, [], V.w15 os hs st tl th ms)) (.cn (g37 lo hi 2000) (.cn (!w37_0 lo hi 2000) (.lf ([], [], 0, 0, 0, [], 1)) (.cn (g22 gn 0 1000) (.cn (!w22_0 gn 0 1000) (.lf ([], [], 0, 0, 0, [], 1)) (.cn (decide (IntKind.i64.wrap (st + gn) > 1000)) (.lf ([], [], 0, 0, 0, [], 3)) (.cn ((os.length * 16).ble 140737488355328 && ((hs.length * 32).ble 140737488355328 && (ms.length * 32).ble 140737488355328) && true) (.cn (i17a_0 lo hi 0 (↑ms.length : Int) os hs (IntKind.i64.wrap (st + gn)) (w39_0 tl th lo hi) (w39_1 tl th lo hi) ms.length 0 0 0 0 ms) (.cn ((0 + ms.length).ble (v17a_0_m26 lo hi 0 (↑ms.length : Int) os hs (IntKind.i64.wrap (st + gn)) (w39_0 tl th lo hi) (w39_1 tl th lo hi) ms.length 0 0 0 0 ms).length) (.lf (os, hs, IntKind.i64.wrap (st + gn), w39_0 tl th lo hi, w39_1 tl th lo hi, bif ms.length.beq (v17a_0_m26 lo hi 0 (↑ms.length : Int) os hs (IntKind.i64.wrap (st + gn)) (w39_0 tl th lo hi) (w39_1 tl th lo hi) ms.length 0 0 0 0 ms).length then v17a_0_m26 lo hi 0 (↑ms.length : Int) os hs (IntKind.i64.wrap (st + gn)) (w39_0 tl th lo hi) (w39_1 tl th lo hi) ms.length 0 0 0 0 ms else List.take ms.length (List.drop 0 (v17a_0_m26 lo hi 0 (↑ms.length : Int) os hs (IntKind.i64.wrap (st + gn)) (w39_0 tl th lo hi) (w39_1 tl th lo hi) ms.length 0 0 0 0 ms)), 0)) (.nn)) (.nn)) (.nn)))) (.nn))) (.nn))) (.nn)
noncomputable def g17 (V : Lv) (os hs : List (List AV)) (st tl th : Int) (ms : List (List AV)) (lo hi gn : Int) : Bool := (t17 V os hs st tl th ms lo hi gn).g
noncomputable def w17_0 (V : Lv) (os hs : List (List AV)) (st tl th : Int) (ms : List (List AV)) (lo hi gn : Int) : List (List AV) := (t17 V os hs st tl th ms lo hi gn).val.1
noncomputable def w17_1 (V : Lv) (os hs : List (List AV)) (st tl th : Int) (ms : List (List AV)) (lo hi gn : Int) : List (List AV) := (t17 V os hs st tl th ms lo hi gn).val.2.1
noncomputable def w17_2 (V : Lv) (os hs : List (List AV)) (st tl th : Int) (ms : List (List AV)) (lo hi gn : Int) : Int := (t17 V os hs st tl th ms lo hi gn).val.2.2.1
noncomputable def w17_3 (V : Lv) (os hs : List (List AV)) (st tl th : Int) (ms : List (List AV)) (lo hi gn : Int) : Int := (t17 V os hs st tl th ms lo hi gn).val.2.2.2.1
noncomputable def w17_4 (V : Lv) (os hs : List (List AV)) (st tl th : Int) (ms : List (List AV)) (lo hi gn : Int) : Int := (t17 V os hs st tl th ms lo hi gn).val.2.2.2.2.1
noncomputable def w17_5 (V : Lv) (os hs : List (List AV)) (st tl th : Int) (ms : List (List AV)) (lo hi gn : Int) : List (List AV) := (t17 V os hs st tl th ms lo hi gn).val.2.2.2.2.2.1
noncomputable def w17_6 (V : Lv) (os hs : List (List AV)) (st tl th : Int) (ms : List (List AV)) (lo hi gn : Int) : Int := (t17 V os hs st tl th ms lo hi gn).val.2.2.2.2.2.2
noncomputable def a17 (V : Lv) (os hs : List (List AV)) (st tl th : Int) (ms : List (List AV)) (lo hi gn : Int) : Tr AV :=
  .cn (V.g15 os hs st tl th ms) (.cn (V.w15 os hs st tl th ms != 0) (.lf (.tup [.agg [.nl, .nl, .i .i64 0, .i .i64 0, .i .i64 0, .nl], .i .i64 (V.w15 os hs st tl th ms)])) (.cn (g37 lo hi 2000) (.cn (!w37_0 lo hi 2000) (.lf (.tup [.agg [.nl, .nl, .i .i64 0, .i .i64 0, .i .i64 0, .nl], .i .i64 1])) (.cn (g22 gn 0 1000) (.cn (!w22_0 gn 0 1000) (.lf (.tup [.agg [.nl, .nl, .i .i64 0, .i .i64 0, .i .i64 0, .nl], .i .i64 1])) (.cn (decide (IntKind.i64.wrap (st + gn) > 1000)) (.lf (.tup [.agg [.nl, .nl, .i .i64 0, .i .i64 0, .i .i64 0, .nl], .i .i64 3])) (.cn ((os.length * 16).ble 140737488355328 && ((hs.length * 32).ble 140737488355328 && (ms.length * 32).ble 140737488355328) && true) (.cn (i17a_0 lo hi 0 (↑ms.length : Int) os hs (IntKind.i64.wrap (st + gn)) (w39_0 tl th lo hi) (w39_1 tl th lo hi) ms.length 0 0 0 0 ms) (.cn ((0 + ms.length).ble (v17a_0_m26 lo hi 0 (↑ms.length : Int) os hs (IntKind.i64.wrap (st + gn)) (w39_0 tl th lo hi) (w39_1 tl th lo hi) ms.length 0 0 0 0 ms).length) (.lf (.tup [.agg [.rs 32 os, .rs 55 hs, .i .i64 (IntKind.i64.wrap (st + gn)), .i .i64 (w39_0 tl th lo hi), .i .i64 (w39_1 tl th lo hi), .rs 67 (bif ms.length.beq (v17a_0_m26 lo hi 0 (↑ms.length : Int) os hs (IntKind.i64.wrap (st + gn)) (w39_0 tl th lo hi) (w39_1 tl th lo hi) ms.length 0 0 0 0 ms).length then v17a_0_m26 lo hi 0 (↑ms.length : Int) os hs (IntKind.i64.wrap (st + gn)) (w39_0 tl th lo hi) (w39_1 tl th lo hi) ms.length 0 0 0 0 ms else List.take ms.length (List.drop 0 (v17a_0_m26 lo hi 0 (↑ms.length : Int) os hs (IntKind.i64.wrap (st + gn)) (w39_0 tl th lo hi) (w39_1 tl th lo hi) ms.length 0 0 0 0 ms)))], .i .i64 0])) (.nn)) (.nn)) (.nn)))) (.nn))) (.nn))) (.nn)
theorem eq17 (V : Lv) (os hs : List (List AV)) (st tl th : Int) (ms : List (List AV)) (lo hi gn : Int) : evF Try.prog (SQ V) ro17 L17 Try.f17 [.agg [.rs 32 os, .rs 55 hs, .i .i64 st, .i .i64 tl, .i .i64 th, .rs 67 ms], .agg [.i .i64 lo, .i .i64 hi], .i .i64 gn] = (a17 V os hs st tl th ms lo hi gn).opt id := by kernel_rfl
theorem wk17 (V : Lv) (os hs : List (List AV)) (st tl th : Int) (ms : List (List AV)) (lo hi gn : Int) : (a17 V os hs st tl th ms lo hi gn).map (wkX (.agg [.agg [.e 32, .e 55, .no, .no, .no, .e 67], .no])) = (t17 V os hs st tl th ms lo hi gn).map (fun (x : (List (List AV)) × (List (List AV)) × (Int) × (Int) × (Int) × (List (List AV)) × (Int)) => (.tup [.agg [.rs 32 x.1, .rs 55 x.2.1, .i .i64 x.2.2.1, .i .i64 x.2.2.2.1, .i .i64 x.2.2.2.2.1, .rs 67 x.2.2.2.2.2.1], .i .i64 x.2.2.2.2.2.2] : AV)) := by kernel_rfl
theorem con17 {V : Lv} (hV : V = V0) (os hs : List (List AV)) (st tl th : Int) (ms : List (List AV)) (lo hi gn : Int) (h : g17 V os hs st tl th ms lo hi gn = true) : Con Try.prog 17 [.agg [.rs 32 os, .rs 55 hs, .i .i64 st, .i .i64 tl, .i .i64 th, .rs 67 ms], .agg [.i .i64 lo, .i .i64 hi], .i .i64 gn] [] (.tup [.agg [.rs 32 (w17_0 V os hs st tl th ms lo hi gn), .rs 55 (w17_1 V os hs st tl th ms lo hi gn), .i .i64 (w17_2 V os hs st tl th ms lo hi gn), .i .i64 (w17_3 V os hs st tl th ms lo hi gn), .i .i64 (w17_4 V os hs st tl th ms lo hi gn), .rs 67 (w17_5 V os hs st tl th ms lo hi gn)], .i .i64 (w17_6 V os hs st tl th ms lo hi gn)]) [] := by
  obtain ⟨v, h1, h2⟩ := Tr.soundX (eq17 V os hs st tl th ms lo hi gn) (wk17 V os hs st tl th ms lo hi gn) h
  have := (con_of (SQ_ok hV) mixed Try.func17 (c := c17) rfl (names 17 _ Try.func17) lok17 h1).wkX (.agg [.agg [.e 32, .e 55, .no, .no, .no, .e 67], .no])
  rw [h2] at this
  exact this
noncomputable def e17 (args : List AV) (rows : List Blk) : Option (Bool × AV × List Blk) := match args, rows with
  | [.agg [.rs 32 os, .rs 55 hs, .i .i64 st, .i .i64 tl, .i .i64 th, .rs 67 ms], .agg [.i .i64 lo, .i .i64 hi], .i .i64 gn], [] => some (g17 V0 os hs st tl th ms lo hi gn, .tup [.agg [.rs 32 (w17_0 V0 os hs st tl th ms lo hi gn), .rs 55 (w17_1 V0 os hs st tl th ms lo hi gn), .i .i64 (w17_2 V0 os hs st tl th ms lo hi gn), .i .i64 (w17_3 V0 os hs st tl th ms lo hi gn), .i .i64 (w17_4 V0 os hs st tl th ms lo hi gn), .rs 67 (w17_5 V0 os hs st tl th ms lo hi gn)], .i .i64 (w17_6 V0 os hs st tl th ms lo hi gn)], [])
  | _, _ => none
-- SPEC 17
end Go.Proofs.Ytoglnllbopcejaa

set_option maxRecDepth 100000
set_option maxHeartbeats 0
set_option linter.unusedVariables false
namespace Go.Proofs.Ytoglnllbopcejaa
open Go Go.Ev

-- SPEC 31
end Go.Proofs.Ytoglnllbopcejaa

set_option maxRecDepth 100000
set_option linter.unusedVariables false
namespace Go.Proofs.Ytoglnllbopcejaa
open Go Go.Ev
structure Lr where
  g28 : List (List AV) → List (List AV) → Int → Int → Int → List (List AV) → Bool
  w28 : List (List AV) → List (List AV) → Int → Int → Int → List (List AV) → Int
  g29 : List (List AV) → List (List AV) → Int → Int → Bool
  w29 : List (List AV) → List (List AV) → Int → Int → Bool
noncomputable def U0 : Lr := ⟨g28, w28_0, g29, w29_0⟩
end Go.Proofs.Ytoglnllbopcejaa

set_option maxRecDepth 100000
set_option maxHeartbeats 0
set_option linter.unusedVariables false
namespace Go.Proofs.Ytoglnllbopcejaa
open Go Go.Ev

structure S10a where
  t12 : List (List AV)
  t13 : Bool
  t14 : Int
inductive T10a where
  | x0 (t12 : List (List AV)) (t13 : Bool) (t14 : Int)
noncomputable def stp10a (u v t9 : Int) (os hs : List (List AV)) (st tl th : Int) (ms m2_0 m2_1 : List (List AV)) (m2_2 m2_3 m2_4 : Int) (m2_5 : List (List AV)) (m21_0 m21_1 : Int) (t12 : List (List AV)) (t13 : Bool) (t14 : Int) : Lp S10a T10a :=
  cond (decide (t14 < (↑ms.length : Int))) (cond (inb t14 ms.length) (cond (fI (ms.getD t14.toNat []) 0 == u && fI (ms.getD t14.toNat []) 1 == v) (cond ((t12.length + [[AV.i IntKind.i64 (fI (ms.getD t14.toNat []) 0), AV.i IntKind.i64 (fI (ms.getD t14.toNat []) 1), AV.i IntKind.i64 (bmax (fI (ms.getD t14.toNat []) 2) m21_0), AV.i IntKind.i64 (bmin (fI (ms.getD t14.toNat []) 3) m21_1)]].length).ble 9223372036854775807 && true) (cond (((t12.length + [[AV.i IntKind.i64 (fI (ms.getD t14.toNat []) 0), AV.i IntKind.i64 (fI (ms.getD t14.toNat []) 1), AV.i IntKind.i64 (bmax (fI (ms.getD t14.toNat []) 2) m21_0), AV.i IntKind.i64 (bmin (fI (ms.getD t14.toNat []) 3) m21_1)]].length) * 32).ble 140737488355328) (cond (t12.isEmpty && false) (.bad) (.go ⟨t12 ++ [[AV.i IntKind.i64 (fI (ms.getD t14.toNat []) 0), AV.i IntKind.i64 (fI (ms.getD t14.toNat []) 1), AV.i IntKind.i64 (bmax (fI (ms.getD t14.toNat []) 2) m21_0), AV.i IntKind.i64 (bmin (fI (ms.getD t14.toNat []) 3) m21_1)]], true, IntKind.i64.wrap (t14 + 1)⟩)) (.bad)) (.bad)) (cond (!t13) (cond (g32 (fI (ms.getD t14.toNat []) 0) (fI (ms.getD t14.toNat []) 1) u v) (cond (w32_0 (fI (ms.getD t14.toNat []) 0) (fI (ms.getD t14.toNat []) 1) u v) (cond ((t12.length + [[AV.i IntKind.i64 u, AV.i IntKind.i64 v, AV.i IntKind.i64 m21_0, AV.i IntKind.i64 m21_1]].length).ble 9223372036854775807 && true) (cond (((t12.length + [[AV.i IntKind.i64 u, AV.i IntKind.i64 v, AV.i IntKind.i64 m21_0, AV.i IntKind.i64 m21_1]].length) * 32).ble 140737488355328) (cond (t12.isEmpty && false) (.bad) (cond (((t12 ++ [[AV.i IntKind.i64 u, AV.i IntKind.i64 v, AV.i IntKind.i64 m21_0, AV.i IntKind.i64 m21_1]]).length + [[AV.i IntKind.i64 (fI (ms.getD t14.toNat []) 0), AV.i IntKind.i64 (fI (ms.getD t14.toNat []) 1), AV.i IntKind.i64 (fI (ms.getD t14.toNat []) 2), AV.i IntKind.i64 (fI (ms.getD t14.toNat []) 3)]].length).ble 9223372036854775807 && true) (cond ((((t12 ++ [[AV.i IntKind.i64 u, AV.i IntKind.i64 v, AV.i IntKind.i64 m21_0, AV.i IntKind.i64 m21_1]]).length + [[AV.i IntKind.i64 (fI (ms.getD t14.toNat []) 0), AV.i IntKind.i64 (fI (ms.getD t14.toNat []) 1), AV.i IntKind.i64 (fI (ms.getD t14.toNat []) 2), AV.i IntKind.i64 (fI (ms.getD t14.toNat []) 3)]].length) * 32).ble 140737488355328) (cond ((t12 ++ [[AV.i IntKind.i64 u, AV.i IntKind.i64 v, AV.i IntKind.i64 m21_0, AV.i IntKind.i64 m21_1]]).isEmpty && false) (.bad) (.go ⟨t12 ++ [[AV.i IntKind.i64 u, AV.i IntKind.i64 v, AV.i IntKind.i64 m21_0, AV.i IntKind.i64 m21_1]] ++ [[AV.i IntKind.i64 (fI (ms.getD t14.toNat []) 0), AV.i IntKind.i64 (fI (ms.getD t14.toNat []) 1), AV.i IntKind.i64 (fI (ms.getD t14.toNat []) 2), AV.i IntKind.i64 (fI (ms.getD t14.toNat []) 3)]], true, IntKind.i64.wrap (t14 + 1)⟩)) (.bad)) (.bad))) (.bad)) (.bad)) (cond ((t12.length + [[AV.i IntKind.i64 (fI (ms.getD t14.toNat []) 0), AV.i IntKind.i64 (fI (ms.getD t14.toNat []) 1), AV.i IntKind.i64 (fI (ms.getD t14.toNat []) 2), AV.i IntKind.i64 (fI (ms.getD t14.toNat []) 3)]].length).ble 9223372036854775807 && true) (cond (((t12.length + [[AV.i IntKind.i64 (fI (ms.getD t14.toNat []) 0), AV.i IntKind.i64 (fI (ms.getD t14.toNat []) 1), AV.i IntKind.i64 (fI (ms.getD t14.toNat []) 2), AV.i IntKind.i64 (fI (ms.getD t14.toNat []) 3)]].length) * 32).ble 140737488355328) (cond (t12.isEmpty && false) (.bad) (.go ⟨t12 ++ [[AV.i IntKind.i64 (fI (ms.getD t14.toNat []) 0), AV.i IntKind.i64 (fI (ms.getD t14.toNat []) 1), AV.i IntKind.i64 (fI (ms.getD t14.toNat []) 2), AV.i IntKind.i64 (fI (ms.getD t14.toNat []) 3)]], t13, IntKind.i64.wrap (t14 + 1)⟩)) (.bad)) (.bad))) (.bad)) (cond ((t12.length + [[AV.i IntKind.i64 (fI (ms.getD t14.toNat []) 0), AV.i IntKind.i64 (fI (ms.getD t14.toNat []) 1), AV.i IntKind.i64 (fI (ms.getD t14.toNat []) 2), AV.i IntKind.i64 (fI (ms.getD t14.toNat []) 3)]].length).ble 9223372036854775807 && true) (cond (((t12.length + [[AV.i IntKind.i64 (fI (ms.getD t14.toNat []) 0), AV.i IntKind.i64 (fI (ms.getD t14.toNat []) 1), AV.i IntKind.i64 (fI (ms.getD t14.toNat []) 2), AV.i IntKind.i64 (fI (ms.getD t14.toNat []) 3)]].length) * 32).ble 140737488355328) (cond (t12.isEmpty && false) (.bad) (.go ⟨t12 ++ [[AV.i IntKind.i64 (fI (ms.getD t14.toNat []) 0), AV.i IntKind.i64 (fI (ms.getD t14.toNat []) 1), AV.i IntKind.i64 (fI (ms.getD t14.toNat []) 2), AV.i IntKind.i64 (fI (ms.getD t14.toNat []) 3)]], t13, IntKind.i64.wrap (t14 + 1)⟩)) (.bad)) (.bad)))) (.bad)) (.out (.x0 t12 t13 t14))
noncomputable def o10a_0 (u v t9 : Int) (os hs : List (List AV)) (st tl th : Int) (ms m2_0 m2_1 : List (List AV)) (m2_2 m2_3 m2_4 : Int) (m2_5 : List (List AV)) (m21_0 m21_1 : Int) (t12 : List (List AV)) (t13 : Bool) (t14 : Int) : St :=
  { t := [(4, .p 0 0 0), (5, .rp [.int .i64, .int .i64] [.i .i64 u, .i .i64 v] 0), (8, .p 2 0 0), (9, .i .i64 t9), (11, .p 21 0 0), (12, .gv 22 67 t12), (13, .b t13), (14, .i .i64 t14)], m := [(22, .fr 67), (0, .row 30 [[.rs 32 os, .rs 55 hs, .i .i64 st, .i .i64 tl, .i .i64 th, .rs 67 ms]]), (1, .dead), (2, .row 30 [[.rs 32 m2_0, .rs 55 m2_1, .i .i64 m2_2, .i .i64 m2_3, .i .i64 m2_4, .rs 67 m2_5]]), (3, .dead), (4, .dead), (5, .dead), (6, .dead), (7, .dead), (8, .dead), (9, .dead), (10, .dead), (11, .dead), (12, .dead), (13, .dead), (14, .dead), (15, .dead), (16, .dead), (17, .dead), (18, .dead), (19, .dead), (20, .dead), (21, .row 27 [[.i .i64 m21_0, .i .i64 m21_1]])], nx := 23, nt := 118 }
noncomputable def r10a (u v t9 : Int) (os hs : List (List AV)) (st tl th : Int) (ms m2_0 m2_1 : List (List AV)) (m2_2 m2_3 m2_4 : Int) (m2_5 : List (List AV)) (m21_0 m21_1 : Int) (t12 : List (List AV)) (t13 : Bool) (t14 : Int) : Option T10a := run (fun x => stp10a u v t9 os hs st tl th ms m2_0 m2_1 m2_2 m2_3 m2_4 m2_5 m21_0 m21_1 x.t12 x.t13 x.t14) (⟨t12, t13, t14⟩ : S10a)
noncomputable def i10a_0 (u v t9 : Int) (os hs : List (List AV)) (st tl th : Int) (ms m2_0 m2_1 : List (List AV)) (m2_2 m2_3 m2_4 : Int) (m2_5 : List (List AV)) (m21_0 m21_1 : Int) (t12 : List (List AV)) (t13 : Bool) (t14 : Int) : Bool := match r10a u v t9 os hs st tl th ms m2_0 m2_1 m2_2 m2_3 m2_4 m2_5 m21_0 m21_1 t12 t13 t14 with
  | some (.x0 _ _ _) => true
  | _ => false
noncomputable def v10a_0_t12 (u v t9 : Int) (os hs : List (List AV)) (st tl th : Int) (ms m2_0 m2_1 : List (List AV)) (m2_2 m2_3 m2_4 : Int) (m2_5 : List (List AV)) (m21_0 m21_1 : Int) (t12 : List (List AV)) (t13 : Bool) (t14 : Int) : List (List AV) := match r10a u v t9 os hs st tl th ms m2_0 m2_1 m2_2 m2_3 m2_4 m2_5 m21_0 m21_1 t12 t13 t14 with
  | some (.x0 t12 _ _) => t12
  | _ => default
noncomputable def v10a_0_t13 (u v t9 : Int) (os hs : List (List AV)) (st tl th : Int) (ms m2_0 m2_1 : List (List AV)) (m2_2 m2_3 m2_4 : Int) (m2_5 : List (List AV)) (m21_0 m21_1 : Int) (t12 : List (List AV)) (t13 : Bool) (t14 : Int) : Bool := match r10a u v t9 os hs st tl th ms m2_0 m2_1 m2_2 m2_3 m2_4 m2_5 m21_0 m21_1 t12 t13 t14 with
  | some (.x0 _ t13 _) => t13
  | _ => default
noncomputable def v10a_0_t14 (u v t9 : Int) (os hs : List (List AV)) (st tl th : Int) (ms m2_0 m2_1 : List (List AV)) (m2_2 m2_3 m2_4 : Int) (m2_5 : List (List AV)) (m21_0 m21_1 : Int) (t12 : List (List AV)) (t13 : Bool) (t14 : Int) : Int := match r10a u v t9 os hs st tl th ms m2_0 m2_1 m2_2 m2_3 m2_4 m2_5 m21_0 m21_1 t12 t13 t14 with
  | some (.x0 _ _ t14) => t14
  | _ => default
noncomputable def q10a (u v t9 : Int) (t12 : List (List AV)) (t13 : Bool) (t14 : Int) (os hs : List (List AV)) (st tl th : Int) (ms m2_0 m2_1 : List (List AV)) (m2_2 m2_3 m2_4 : Int) (m2_5 : List (List AV)) (m21_0 m21_1 : Int) : List (Bool × Ex × St) := [(i10a_0 u v t9 os hs st tl th ms m2_0 m2_1 m2_2 m2_3 m2_4 m2_5 m21_0 m21_1 t12 t13 t14, .ext 1, o10a_0 u v t9 os hs st tl th ms m2_0 m2_1 m2_2 m2_3 m2_4 m2_5 m21_0 m21_1 (v10a_0_t12 u v t9 os hs st tl th ms m2_0 m2_1 m2_2 m2_3 m2_4 m2_5 m21_0 m21_1 t12 t13 t14) (v10a_0_t13 u v t9 os hs st tl th ms m2_0 m2_1 m2_2 m2_3 m2_4 m2_5 m21_0 m21_1 t12 t13 t14) (v10a_0_t14 u v t9 os hs st tl th ms m2_0 m2_1 m2_2 m2_3 m2_4 m2_5 m21_0 m21_1 t12 t13 t14))]
noncomputable def l10a (st : St) : Option (List (Bool × Ex × St)) := qget [.p 0 0 0, .rp [.int .i64, .int .i64] [.i .i64, .i .i64] 0, .p 2 0 0, .i .i64, .p 21 0 0, .gv 22 67, .b, .i .i64] [(22, .fr 67), (0, .row 30 [.l [.rs 32, .rs 55, .i .i64, .i .i64, .i .i64, .rs 67]]), (1, .dead), (2, .row 30 [.l [.rs 32, .rs 55, .i .i64, .i .i64, .i .i64, .rs 67]]), (3, .dead), (4, .dead), (5, .dead), (6, .dead), (7, .dead), (8, .dead), (9, .dead), (10, .dead), (11, .dead), (12, .dead), (13, .dead), (14, .dead), (15, .dead), (16, .dead), (17, .dead), (18, .dead), (19, .dead), (20, .dead), (21, .row 27 [.l [.i .i64, .i .i64]])] 23 118 (normW Try.prog [(4, none), (5, none), (8, none), (9, none), (11, none), (12, some 67), (13, none), (14, none)] 22 st) fun ls => q10a (lI ls 0) (lI ls 1) (lI ls 2) (lLL ls 3) (lB ls 4) (lI ls 5) (lLL ls 6) (lLL ls 7) (lI ls 8) (lI ls 9) (lI ls 10) (lLL ls 11) (lLL ls 12) (lLL ls 13) (lI ls 14) (lI ls 15) (lI ls 16) (lLL ls 17) (lI ls 18) (lI ls 19)
structure S10a' where
  t12 : List (List AV)
  t13 : Bool
  t14 : Int
inductive T10a' where
  | x0 (t12 : List (List AV)) (t13 : Bool) (t14 : Int)
noncomputable def stp10a' (u v t9 : Int) (os hs : List (List AV)) (st tl th : Int) (ms m2_0 m2_1 : List (List AV)) (m2_2 m2_3 m2_4 : Int) (m2_5 : List (List AV)) (m36_0 m36_1 : Int) (t12 : List (List AV)) (t13 : Bool) (t14 : Int) : Lp S10a' T10a' :=
  cond (decide (t14 < (↑ms.length : Int))) (cond (inb t14 ms.length) (cond (fI (ms.getD t14.toNat []) 0 == u && fI (ms.getD t14.toNat []) 1 == v) (cond ((t12.length + [[AV.i IntKind.i64 (fI (ms.getD t14.toNat []) 0), AV.i IntKind.i64 (fI (ms.getD t14.toNat []) 1), AV.i IntKind.i64 (bmax (fI (ms.getD t14.toNat []) 2) m36_0), AV.i IntKind.i64 (bmin (fI (ms.getD t14.toNat []) 3) m36_1)]].length).ble 9223372036854775807 && true) (cond (((t12.length + [[AV.i IntKind.i64 (fI (ms.getD t14.toNat []) 0), AV.i IntKind.i64 (fI (ms.getD t14.toNat []) 1), AV.i IntKind.i64 (bmax (fI (ms.getD t14.toNat []) 2) m36_0), AV.i IntKind.i64 (bmin (fI (ms.getD t14.toNat []) 3) m36_1)]].length) * 32).ble 140737488355328) (cond (t12.isEmpty && false) (.bad) (.go ⟨t12 ++ [[AV.i IntKind.i64 (fI (ms.getD t14.toNat []) 0), AV.i IntKind.i64 (fI (ms.getD t14.toNat []) 1), AV.i IntKind.i64 (bmax (fI (ms.getD t14.toNat []) 2) m36_0), AV.i IntKind.i64 (bmin (fI (ms.getD t14.toNat []) 3) m36_1)]], true, IntKind.i64.wrap (t14 + 1)⟩)) (.bad)) (.bad)) (cond (!t13) (cond (g32 (fI (ms.getD t14.toNat []) 0) (fI (ms.getD t14.toNat []) 1) u v) (cond (w32_0 (fI (ms.getD t14.toNat []) 0) (fI (ms.getD t14.toNat []) 1) u v) (cond ((t12.length + [[AV.i IntKind.i64 u, AV.i IntKind.i64 v, AV.i IntKind.i64 m36_0, AV.i IntKind.i64 m36_1]].length).ble 9223372036854775807 && true) (cond (((t12.length + [[AV.i IntKind.i64 u, AV.i IntKind.i64 v, AV.i IntKind.i64 m36_0, AV.i IntKind.i64 m36_1]].length) * 32).ble 140737488355328) (cond (t12.isEmpty && false) (.bad) (cond (((t12 ++ [[AV.i IntKind.i64 u, AV.i IntKind.i64 v, AV.i IntKind.i64 m36_0, AV.i IntKind.i64 m36_1]]).length + [[AV.i IntKind.i64 (fI (ms.getD t14.toNat []) 0), AV.i IntKind.i64 (fI (ms.getD t14.toNat []) 1), AV.i IntKind.i64 (fI (ms.getD t14.toNat []) 2), AV.i IntKind.i64 (fI (ms.getD t14.toNat []) 3)]].length).ble 9223372036854775807 && true) (cond ((((t12 ++ [[AV.i IntKind.i64 u, AV.i IntKind.i64 v, AV.i IntKind.i64 m36_0, AV.i IntKind.i64 m36_1]]).length + [[AV.i IntKind.i64 (fI (ms.getD t14.toNat []) 0), AV.i IntKind.i64 (fI (ms.getD t14.toNat []) 1), AV.i IntKind.i64 (fI (ms.getD t14.toNat []) 2), AV.i IntKind.i64 (fI (ms.getD t14.toNat []) 3)]].length) * 32).ble 140737488355328) (cond ((t12 ++ [[AV.i IntKind.i64 u, AV.i IntKind.i64 v, AV.i IntKind.i64 m36_0, AV.i IntKind.i64 m36_1]]).isEmpty && false) (.bad) (.go ⟨t12 ++ [[AV.i IntKind.i64 u, AV.i IntKind.i64 v, AV.i IntKind.i64 m36_0, AV.i IntKind.i64 m36_1]] ++ [[AV.i IntKind.i64 (fI (ms.getD t14.toNat []) 0), AV.i IntKind.i64 (fI (ms.getD t14.toNat []) 1), AV.i IntKind.i64 (fI (ms.getD t14.toNat []) 2), AV.i IntKind.i64 (fI (ms.getD t14.toNat []) 3)]], true, IntKind.i64.wrap (t14 + 1)⟩)) (.bad)) (.bad))) (.bad)) (.bad)) (cond ((t12.length + [[AV.i IntKind.i64 (fI (ms.getD t14.toNat []) 0), AV.i IntKind.i64 (fI (ms.getD t14.toNat []) 1), AV.i IntKind.i64 (fI (ms.getD t14.toNat []) 2), AV.i IntKind.i64 (fI (ms.getD t14.toNat []) 3)]].length).ble 9223372036854775807 && true) (cond (((t12.length + [[AV.i IntKind.i64 (fI (ms.getD t14.toNat []) 0), AV.i IntKind.i64 (fI (ms.getD t14.toNat []) 1), AV.i IntKind.i64 (fI (ms.getD t14.toNat []) 2), AV.i IntKind.i64 (fI (ms.getD t14.toNat []) 3)]].length) * 32).ble 140737488355328) (cond (t12.isEmpty && false) (.bad) (.go ⟨t12 ++ [[AV.i IntKind.i64 (fI (ms.getD t14.toNat []) 0), AV.i IntKind.i64 (fI (ms.getD t14.toNat []) 1), AV.i IntKind.i64 (fI (ms.getD t14.toNat []) 2), AV.i IntKind.i64 (fI (ms.getD t14.toNat []) 3)]], t13, IntKind.i64.wrap (t14 + 1)⟩)) (.bad)) (.bad))) (.bad)) (cond ((t12.length + [[AV.i IntKind.i64 (fI (ms.getD t14.toNat []) 0), AV.i IntKind.i64 (fI (ms.getD t14.toNat []) 1), AV.i IntKind.i64 (fI (ms.getD t14.toNat []) 2), AV.i IntKind.i64 (fI (ms.getD t14.toNat []) 3)]].length).ble 9223372036854775807 && true) (cond (((t12.length + [[AV.i IntKind.i64 (fI (ms.getD t14.toNat []) 0), AV.i IntKind.i64 (fI (ms.getD t14.toNat []) 1), AV.i IntKind.i64 (fI (ms.getD t14.toNat []) 2), AV.i IntKind.i64 (fI (ms.getD t14.toNat []) 3)]].length) * 32).ble 140737488355328) (cond (t12.isEmpty && false) (.bad) (.go ⟨t12 ++ [[AV.i IntKind.i64 (fI (ms.getD t14.toNat []) 0), AV.i IntKind.i64 (fI (ms.getD t14.toNat []) 1), AV.i IntKind.i64 (fI (ms.getD t14.toNat []) 2), AV.i IntKind.i64 (fI (ms.getD t14.toNat []) 3)]], t13, IntKind.i64.wrap (t14 + 1)⟩)) (.bad)) (.bad)))) (.bad)) (.out (.x0 t12 t13 t14))
noncomputable def o10a'_0 (u v t9 : Int) (os hs : List (List AV)) (st tl th : Int) (ms m2_0 m2_1 : List (List AV)) (m2_2 m2_3 m2_4 : Int) (m2_5 : List (List AV)) (m36_0 m36_1 : Int) (t12 : List (List AV)) (t13 : Bool) (t14 : Int) : St :=
  { t := [(4, .p 0 0 0), (5, .rp [.int .i64, .int .i64] [.i .i64 u, .i .i64 v] 0), (8, .p 2 0 0), (9, .i .i64 t9), (11, .p 36 0 0), (12, .gv 37 67 t12), (13, .b t13), (14, .i .i64 t14)], m := [(37, .fr 67), (0, .row 30 [[.rs 32 os, .rs 55 hs, .i .i64 st, .i .i64 tl, .i .i64 th, .rs 67 ms]]), (1, .dead), (2, .row 30 [[.rs 32 m2_0, .rs 55 m2_1, .i .i64 m2_2, .i .i64 m2_3, .i .i64 m2_4, .rs 67 m2_5]]), (3, .dead), (4, .dead), (5, .dead), (6, .dead), (7, .dead), (8, .dead), (9, .dead), (10, .dead), (11, .dead), (12, .dead), (13, .dead), (14, .dead), (15, .dead), (16, .dead), (17, .dead), (18, .dead), (19, .dead), (20, .dead), (21, .dead), (22, .dead), (23, .dead), (24, .dead), (25, .dead), (26, .dead), (27, .dead), (28, .dead), (29, .dead), (30, .dead), (31, .dead), (32, .dead), (33, .dead), (34, .dead), (35, .dead), (36, .row 27 [[.i .i64 m36_0, .i .i64 m36_1]])], nx := 38, nt := 118 }
noncomputable def r10a' (u v t9 : Int) (os hs : List (List AV)) (st tl th : Int) (ms m2_0 m2_1 : List (List AV)) (m2_2 m2_3 m2_4 : Int) (m2_5 : List (List AV)) (m36_0 m36_1 : Int) (t12 : List (List AV)) (t13 : Bool) (t14 : Int) : Option T10a' := run (fun x => stp10a' u v t9 os hs st tl th ms m2_0 m2_1 m2_2 m2_3 m2_4 m2_5 m36_0 m36_1 x.t12 x.t13 x.t14) (⟨t12, t13, t14⟩ : S10a')
noncomputable def i10a'_0 (u v t9 : Int) (os hs : List (List AV)) (st tl th : Int) (ms m2_0 m2_1 : List (List AV)) (m2_2 m2_3 m2_4 : Int) (m2_5 : List (List AV)) (m36_0 m36_1 : Int) (t12 : List (List AV)) (t13 : Bool) (t14 : Int) : Bool := match r10a' u v t9 os hs st tl th ms m2_0 m2_1 m2_2 m2_3 m2_4 m2_5 m36_0 m36_1 t12 t13 t14 with
  | some (.x0 _ _ _) => true
  | _ => false
noncomputable def v10a'_0_t12 (u v t9 : Int) (os hs : List (List AV)) (st tl th : Int) (ms m2_0 m2_1 : List (List AV)) (m2_2 m2_3 m2_4 : Int) (m2_5 : List (List AV)) (m36_0 m36_1 : Int) (t12 : List (List AV)) (t13 : Bool) (t14 : Int) : List (List AV) := match r10a' u v t9 os hs st tl th ms m2_0 m2_1 m2_2 m2_3 m2_4 m2_5 m36_0 m36_1 t12 t13 t14 with
  | some (.x0 t12 _ _) => t12
  | _ => default
noncomputable def v10a'_0_t13 (u v t9 : Int) (os hs : List (List AV)) (st tl th : Int) (ms m2_0 m2_1 : List (List AV)) (m2_2 m2_3 m2_4 : Int) (m2_5 : List (List AV)) (m36_0 m36_1 : Int) (t12 : List (List AV)) (t13 : Bool) (t14 : Int) : Bool := match r10a' u v t9 os hs st tl th ms m2_0 m2_1 m2_2 m2_3 m2_4 m2_5 m36_0 m36_1 t12 t13 t14 with
  | some (.x0 _ t13 _) => t13
  | _ => default
noncomputable def v10a'_0_t14 (u v t9 : Int) (os hs : List (List AV)) (st tl th : Int) (ms m2_0 m2_1 : List (List AV)) (m2_2 m2_3 m2_4 : Int) (m2_5 : List (List AV)) (m36_0 m36_1 : Int) (t12 : List (List AV)) (t13 : Bool) (t14 : Int) : Int := match r10a' u v t9 os hs st tl th ms m2_0 m2_1 m2_2 m2_3 m2_4 m2_5 m36_0 m36_1 t12 t13 t14 with
  | some (.x0 _ _ t14) => t14
  | _ => default
noncomputable def q10a' (u v t9 : Int) (t12 : List (List AV)) (t13 : Bool) (t14 : Int) (os hs : List (List AV)) (st tl th : Int) (ms m2_0 m2_1 : List (List AV)) (m2_2 m2_3 m2_4 : Int) (m2_5 : List (List AV)) (m36_0 m36_1 : Int) : List (Bool × Ex × St) := [(i10a'_0 u v t9 os hs st tl th ms m2_0 m2_1 m2_2 m2_3 m2_4 m2_5 m36_0 m36_1 t12 t13 t14, .ext 1, o10a'_0 u v t9 os hs st tl th ms m2_0 m2_1 m2_2 m2_3 m2_4 m2_5 m36_0 m36_1 (v10a'_0_t12 u v t9 os hs st tl th ms m2_0 m2_1 m2_2 m2_3 m2_4 m2_5 m36_0 m36_1 t12 t13 t14) (v10a'_0_t13 u v t9 os hs st tl th ms m2_0 m2_1 m2_2 m2_3 m2_4 m2_5 m36_0 m36_1 t12 t13 t14) (v10a'_0_t14 u v t9 os hs st tl th ms m2_0 m2_1 m2_2 m2_3 m2_4 m2_5 m36_0 m36_1 t12 t13 t14))]
noncomputable def l10a' (st : St) : Option (List (Bool × Ex × St)) := qget [.p 0 0 0, .rp [.int .i64, .int .i64] [.i .i64, .i .i64] 0, .p 2 0 0, .i .i64, .p 36 0 0, .gv 37 67, .b, .i .i64] [(37, .fr 67), (0, .row 30 [.l [.rs 32, .rs 55, .i .i64, .i .i64, .i .i64, .rs 67]]), (1, .dead), (2, .row 30 [.l [.rs 32, .rs 55, .i .i64, .i .i64, .i .i64, .rs 67]]), (3, .dead), (4, .dead), (5, .dead), (6, .dead), (7, .dead), (8, .dead), (9, .dead), (10, .dead), (11, .dead), (12, .dead), (13, .dead), (14, .dead), (15, .dead), (16, .dead), (17, .dead), (18, .dead), (19, .dead), (20, .dead), (21, .dead), (22, .dead), (23, .dead), (24, .dead), (25, .dead), (26, .dead), (27, .dead), (28, .dead), (29, .dead), (30, .dead), (31, .dead), (32, .dead), (33, .dead), (34, .dead), (35, .dead), (36, .row 27 [.l [.i .i64, .i .i64]])] 38 118 (normW Try.prog [(4, none), (5, none), (8, none), (9, none), (11, none), (12, some 67), (13, none), (14, none)] 37 st) fun ls => q10a' (lI ls 0) (lI ls 1) (lI ls 2) (lLL ls 3) (lB ls 4) (lI ls 5) (lLL ls 6) (lLL ls 7) (lI ls 8) (lI ls 9) (lI ls 10) (lLL ls 11) (lLL ls 12) (lLL ls 13) (lI ls 14) (lI ls 15) (lI ls 16) (lLL ls 17) (lI ls 18) (lI ls 19)
noncomputable def L10 : LSpec := fun p st => match p with
  | [false, true, false, true, true, true, true, true, true, true, true] => orL (l10a st) (l10a' st)
  | _ => none
noncomputable def t10 (V : Lr) (os hs : List (List AV)) (st tl th : Int) (ms : List (List AV)) (u v rd wr : Int) : Tr ((List (List AV)) × (List (List AV)) × (Int) × (Int) × (Int) × (List (List AV)) × (Int)) :=
  .cn (V.g28 os hs st tl th ms) (.cn (V.w28 os hs st tl th ms != 0) (.cn (V.w28 os hs st tl th ms != 0) (.lf ([], [], 0, 0, 0, [], V.w28 os hs st tl th ms)) (.cn ((os.length * 16).ble 140737488355328 && ((hs.length * 32).ble 140737488355328 && (ms.length * 32).ble 140737488355328)) (.cn (i10a_0 u v 0 os hs st tl th ms [] [] 0 0 0 [] (bmax 0 (IntKind.i64.wrap (rd - wr))) (bmin 2000 (IntKind.i64.wrap (rd + wr))) [] false 0) (.cn (!v10a_0_t13 u v 0 os hs st tl th ms [] [] 0 0 0 [] (bmax 0 (IntKind.i64.wrap (rd - wr))) (bmin 2000 (IntKind.i64.wrap (rd + wr))) [] false 0) (.cn (((v10a_0_t12 u v 0 os hs st tl th ms [] [] 0 0 0 [] (bmax 0 (IntKind.i64.wrap (rd - wr))) (bmin 2000 (IntKind.i64.wrap (rd + wr))) [] false 0).length + [[AV.i IntKind.i64 u, AV.i IntKind.i64 v, AV.i IntKind.i64 (bmax 0 (IntKind.i64.wrap (rd - wr))), AV.i IntKind.i64 (bmin 2000 (IntKind.i64.wrap (rd + wr)))]].length).ble 9223372036854775807 && true) (.cn ((((v10a_0_t12 u v 0 os hs st tl th ms [] [] 0 0 0 [] (bmax 0 (IntKind.i64.wrap (rd - wr))) (bmin 2000 (IntKind.i64.wrap (rd + wr))) [] false 0).length + [[AV.i IntKind.i64 u, AV.i IntKind.i64 v, AV.i IntKind.i64 (bmax 0 (IntKind.i64.wrap (rd - wr))), AV.i IntKind.i64 (bmin 2000 (IntKind.i64.wrap (rd + wr)))]].length) * 32).ble 140737488355328) (.cn ((v10a_0_t12 u v 0 os hs st tl th ms [] [] 0 0 0 [] (bmax 0 (IntKind.i64.wrap (rd - wr))) (bmin 2000 (IntKind.i64.wrap (rd + wr))) [] false 0).isEmpty && false) (.cn (V.g28 os hs st tl th (bif true && true then [[AV.i IntKind.i64 u, AV.i IntKind.i64 v, AV.i IntKind.i64 (bmax 0 (IntKind.i64.wrap (rd - wr))), AV.i IntKind.i64 (bmin 2000 (IntKind.i64.wrap (rd + wr)))]] else List.take [[AV.i IntKind.i64 u, AV.i IntKind.i64 v, AV.i IntKind.i64 (bmax 0 (IntKind.i64.wrap (rd - wr))), AV.i IntKind.i64 (bmin 2000 (IntKind.i64.wrap (rd + wr)))]].length (List.drop 0 [[AV.i IntKind.i64 u, AV.i IntKind.i64 v, AV.i IntKind.i64 (bmax 0 (IntKind.i64.wrap (rd - wr))), AV.i IntKind.i64 (bmin 2000 (IntKind.i64.wrap (rd + wr)))]]))) (.cn (V.w28 os hs st tl th (bif true && true then [[AV.i IntKind.i64 u, AV.i IntKind.i64 v, AV.i IntKind.i64 (bmax 0 (IntKind.i64.wrap (rd - wr))), AV.i IntKind.i64 (bmin 2000 (IntKind.i64.wrap (rd + wr)))]] else List.take [[AV.i IntKind.i64 u, AV.i IntKind.i64 v, AV.i IntKind.i64 (bmax 0 (IntKind.i64.wrap (rd - wr))), AV.i IntKind.i64 (bmin 2000 (IntKind.i64.wrap (rd + wr)))]].length (List.drop 0 [[AV.i IntKind.i64 u, AV.i IntKind.i64 v, AV.i IntKind.i64 (bmax 0 (IntKind.i64.wrap (rd - wr))), AV.i IntKind.i64 (bmin 2000 (IntKind.i64.wrap (rd + wr)))]])) != 0) (.lf ([], [], 0, 0, 0, [], 10)) (.lf (os, hs, st, tl, th, bif true && true then [[AV.i IntKind.i64 u, AV.i IntKind.i64 v, AV.i IntKind.i64 (bmax 0 (IntKind.i64.wrap (rd - wr))), AV.i IntKind.i64 (bmin 2000 (IntKind.i64.wrap (rd + wr)))]] else List.take [[AV.i IntKind.i64 u, AV.i IntKind.i64 v, AV.i IntKind.i64 (bmax 0 (IntKind.i64.wrap (rd - wr))), AV.i IntKind.i64 (bmin 2000 (IntKind.i64.wrap (rd + wr)))]].length (List.drop 0 [[AV.i IntKind.i64 u, AV.i IntKind.i64 v, AV.i IntKind.i64 (bmax 0 (IntKind.i64.wrap (rd - wr))), AV.i IntKind.i64 (bmin 2000 (IntKind.i64.wrap (rd + wr)))]]), 0))) (.nn)) (.cn (decide ((↑(v10a_0_t12 u v 0 os hs st tl th ms [] [] 0 0 0 [] (bmax 0 (IntKind.i64.wrap (rd - wr))) (bmin 2000 (IntKind.i64.wrap (rd + wr))) [] false 0 ++ [[AV.i IntKind.i64 u, AV.i IntKind.i64 v, AV.i IntKind.i64 (bmax 0 (IntKind.i64.wrap (rd - wr))), AV.i IntKind.i64 (bmin 2000 (IntKind.i64.wrap (rd + wr)))]]).length : Int) > 40)) (.lf ([], [], 0, 0, 0, [], 3)) (.cn (V.g28 os hs st tl th (v10a_0_t12 u v 0 os hs st tl th ms [] [] 0 0 0 [] (bmax 0 (IntKind.i64.wrap (rd - wr))) (bmin 2000 (IntKind.i64.wrap (rd + wr))) [] false 0 ++ [[AV.i IntKind.i64 u, AV.i IntKind.i64 v, AV.i IntKind.i64 (bmax 0 (IntKind.i64.wrap (rd - wr))), AV.i IntKind.i64 (bmin 2000 (IntKind.i64.wrap (rd + wr)))]])) (.cn (V.w28 os hs st tl th (v10a_0_t12 u v 0 os hs st tl th ms [] [] 0 0 0 [] (bmax 0 (IntKind.i64.wrap (rd - wr))) (bmin 2000 (IntKind.i64.wrap (rd + wr))) [] false 0 ++ [[AV.i IntKind.i64 u, AV.i IntKind.i64 v, AV.i IntKind.i64 (bmax 0 (IntKind.i64.wrap (rd - wr))), AV.i IntKind.i64 (bmin 2000 (IntKind.i64.wrap (rd + wr)))]]) != 0) (.lf ([], [], 0, 0, 0, [], 10)) (.lf (os, hs, st, tl, th, v10a_0_t12 u v 0 os hs st tl th ms [] [] 0 0 0 [] (bmax 0 (IntKind.i64.wrap (rd - wr))) (bmin 2000 (IntKind.i64.wrap (rd + wr))) [] false 0 ++ [[AV.i IntKind.i64 u, AV.i IntKind.i64 v, AV.i IntKind.i64 (bmax 0 (IntKind.i64.wrap (rd - wr))), AV.i IntKind.i64 (bmin 2000 (IntKind.i64.wrap (rd + wr)))]], 0))) (.nn)))) (.nn)) (.nn)) (.cn (decide ((↑(v10a_0_t12 u v 0 os hs st tl th ms [] [] 0 0 0 [] (bmax 0 (IntKind.i64.wrap (rd - wr))) (bmin 2000 (IntKind.i64.wrap (rd + wr))) [] false 0).length : Int) > 40)) (.lf ([], [], 0, 0, 0, [], 3)) (.cn (V.g28 os hs st tl th (v10a_0_t12 u v 0 os hs st tl th ms [] [] 0 0 0 [] (bmax 0 (IntKind.i64.wrap (rd - wr))) (bmin 2000 (IntKind.i64.wrap (rd + wr))) [] false 0)) (.cn (V.w28 os hs st tl th (v10a_0_t12 u v 0 os hs st tl th ms [] [] 0 0 0 [] (bmax 0 (IntKind.i64.wrap (rd - wr))) (bmin 2000 (IntKind.i64.wrap (rd + wr))) [] false 0) != 0) (.lf ([], [], 0, 0, 0, [], 10)) (.lf (os, hs, st, tl, th, v10a_0_t12 u v 0 os hs st tl th ms [] [] 0 0 0 [] (bmax 0 (IntKind.i64.wrap (rd - wr))) (bmin 2000 (IntKind.i64.wrap (rd + wr))) [] false 0, 0))) (.nn)))) (.nn)) (.nn))) (.cn (V.g29 os hs u v) (.cn (!V.w29 os hs u v) (.lf ([], [], 0, 0, 0, [], 7)) (.cn (g30 rd 0 2000) (.cn (!w30_0 rd 0 2000) (.lf ([], [], 0, 0, 0, [], 1)) (.cn (g30 wr 0 2000) (.cn (!w30_0 wr 0 2000) (.lf ([], [], 0, 0, 0, [], 1)) (.cn (V.w28 os hs st tl th ms != 0) (.lf ([], [], 0, 0, 0, [], V.w28 os hs st tl th ms)) (.cn ((os.length * 16).ble 140737488355328 && ((hs.length * 32).ble 140737488355328 && (ms.length * 32).ble 140737488355328)) (.cn (i10a'_0 u v 0 os hs st tl th ms [] [] 0 0 0 [] (bmax 0 (IntKind.i64.wrap (rd - wr))) (bmin 2000 (IntKind.i64.wrap (rd + wr))) [] false 0) (.cn (!v10a'_0_t13 u v 0 os hs st tl th ms [] [] 0 0 0 [] (bmax 0 (IntKind.i64.wrap (rd - wr))) (bmin 2000 (IntKind.i64.wrap (rd + wr))) [] false 0) (.cn (((v10a'_0_t12 u v 0 os hs st tl th ms [] [] 0 0 0 [] (bmax 0 (IntKind.i64.wrap (rd - wr))) (bmin 2000 (IntKind.i64.wrap (rd + wr))) [] false 0).length + [[AV.i IntKind.i64 u, AV.i IntKind.i64 v, AV.i IntKind.i64 (bmax 0 (IntKind.i64.wrap (rd - wr))), AV.i IntKind.i64 (bmin 2000 (IntKind.i64.wrap (rd + wr)))]].length).ble 9223372036854775807 && true) (.cn ((((v10a'_0_t12 u v 0 os hs st tl th ms [] [] 0 0 0 [] (bmax 0 (IntKind.i64.wrap (rd - wr))) (bmin 2000 (IntKind.i64.wrap (rd + wr))) [] false 0).length + [[AV.i IntKind.i64 u, AV.i IntKind.i64 v, AV.i IntKind.i64 (bmax 0 (IntKind.i64.wrap (rd - wr))), AV.i IntKind.i64 (bmin 2000 (IntKind.i64.wrap (rd + wr)))]].length) * 32).ble 140737488355328) (.cn ((v10a'_0_t12 u v 0 os hs st tl th ms [] [] 0 0 0 [] (bmax 0 (IntKind.i64.wrap (rd - wr))) (bmin 2000 (IntKind.i64.wrap (rd + wr))) [] false 0).isEmpty && false) (.cn (V.g28 os hs st tl th (bif true && true then [[AV.i IntKind.i64 u, AV.i IntKind.i64 v, AV.i IntKind.i64 (bmax 0 (IntKind.i64.wrap (rd - wr))), AV.i IntKind.i64 (bmin 2000 (IntKind.i64.wrap (rd + wr)))]] else List.take [[AV.i IntKind.i64 u, AV.i IntKind.i64 v, AV.i IntKind.i64 (bmax 0 (IntKind.i64.wrap (rd - wr))), AV.i IntKind.i64 (bmin 2000 (IntKind.i64.wrap (rd + wr)))]].length (List.drop 0 [[AV.i IntKind.i64 u, AV.i IntKind.i64 v, AV.i IntKind.i64 (bmax 0 (IntKind.i64.wrap (rd - wr))), AV.i IntKind.i64 (bmin 2000 (IntKind.i64.wrap (rd + wr)))]]))) (.cn (V.w28 os hs st tl th (bif true && true then [[AV.i IntKind.i64 u, AV.i IntKind.i64 v, AV.i IntKind.i64 (bmax 0 (IntKind.i64.wrap (rd - wr))), AV.i IntKind.i64 (bmin 2000 (IntKind.i64.wrap (rd + wr)))]] else List.take [[AV.i IntKind.i64 u, AV.i IntKind.i64 v, AV.i IntKind.i64 (bmax 0 (IntKind.i64.wrap (rd - wr))), AV.i IntKind.i64 (bmin 2000 (IntKind.i64.wrap (rd + wr)))]].length (List.drop 0 [[AV.i IntKind.i64 u, AV.i IntKind.i64 v, AV.i IntKind.i64 (bmax 0 (IntKind.i64.wrap (rd - wr))), AV.i IntKind.i64 (bmin 2000 (IntKind.i64.wrap (rd + wr)))]])) != 0) (.lf ([], [], 0, 0, 0, [], 10)) (.lf (os, hs, st, tl, th, bif true && true then [[AV.i IntKind.i64 u, AV.i IntKind.i64 v, AV.i IntKind.i64 (bmax 0 (IntKind.i64.wrap (rd - wr))), AV.i IntKind.i64 (bmin 2000 (IntKind.i64.wrap (rd + wr)))]] else List.take [[AV.i IntKind.i64 u, AV.i IntKind.i64 v, AV.i IntKind.i64 (bmax 0 (IntKind.i64.wrap (rd - wr))), AV.i IntKind.i64 (bmin 2000 (IntKind.i64.wrap (rd + wr)))]].length (List.drop 0 [[AV.i IntKind.i64 u, AV.i IntKind.i64 v, AV.i IntKind.i64 (bmax 0 (IntKind.i64.wrap (rd - wr))), AV.i IntKind.i64 (bmin 2000 (IntKind.i64.wrap (rd + wr)))]]), 0))) (.nn)) (.cn (decide ((↑(v10a'_0_t12 u v 0 os hs st tl th ms [] [] 0 0 0 [] (bmax 0 (IntKind.i64.wrap (rd - wr))) (bmin 2000 (IntKind.i64.wrap (rd + wr))) [] false 0 ++ [[AV.i IntKind.i64 u, AV.i IntKind.i64 v, AV.i IntKind.i64 (bmax 0 (IntKind.i64.wrap (rd - wr))), AV.i IntKind.i64 (bmin 2000 (IntKind.i64.wrap (rd + wr)))]]).length : Int) > 40)) (.lf ([], [], 0, 0, 0, [], 3)) (.cn (V.g28 os hs st tl th (v10a'_0_t12 u v 0 os hs st tl th ms [] [] 0 0 0 [] (bmax 0 (IntKind.i64.wrap (rd - wr))) (bmin 2000 (IntKind.i64.wrap (rd + wr))) [] false 0 ++ [[AV.i IntKind.i64 u, AV.i IntKind.i64 v, AV.i IntKind.i64 (bmax 0 (IntKind.i64.wrap (rd - wr))), AV.i IntKind.i64 (bmin 2000 (IntKind.i64.wrap (rd + wr)))]])) (.cn (V.w28 os hs st tl th (v10a'_0_t12 u v 0 os hs st tl th ms [] [] 0 0 0 [] (bmax 0 (IntKind.i64.wrap (rd - wr))) (bmin 2000 (IntKind.i64.wrap (rd + wr))) [] false 0 ++ [[AV.i IntKind.i64 u, AV.i IntKind.i64 v, AV.i IntKind.i64 (bmax 0 (IntKind.i64.wrap (rd - wr))), AV.i IntKind.i64 (bmin 2000 (IntKind.i64.wrap (rd + wr)))]]) != 0) (.lf ([], [], 0, 0, 0, [], 10)) (.lf (os, hs, st, tl, th, v10a'_0_t12 u v 0 os hs st tl th ms [] [] 0 0 0 [] (bmax 0 (IntKind.i64.wrap (rd - wr))) (bmin 2000 (IntKind.i64.wrap (rd + wr))) [] false 0 ++ [[AV.i IntKind.i64 u, AV.i IntKind.i64 v, AV.i IntKind.i64 (bmax 0 (IntKind.i64.wrap (rd - wr))), AV.i IntKind.i64 (bmin 2000 (IntKind.i64.wrap (rd + wr)))]], 0))) (.nn)))) (.nn)) (.nn)) (.cn (decide ((↑(v10a'_0_t12 u v 0 os hs st tl th ms [] [] 0 0 0 [] (bmax 0 (IntKind.i64.wrap (rd - wr))) (bmin 2000 (IntKind.i64.wrap (rd + wr))) [] false 0).length : Int) > 40)) (.lf ([], [], 0, 0, 0, [], 3)) (.cn (V.g28 os hs st tl th (v10a'_0_t12 u v 0 os hs st tl th ms [] [] 0 0 0 [] (bmax 0 (IntKind.i64.wrap (rd - wr))) (bmin 2000 (IntKind.i64.wrap (rd + wr))) [] false 0)) (.cn (V.w28 os hs st tl th (v10a'_0_t12 u v 0 os hs st tl th ms [] [] 0 0 0 [] (bmax 0 (IntKind.i64.wrap (rd - wr))) (bmin 2000 (IntKind.i64.wrap (rd + wr))) [] false 0) != 0) (.lf ([], [], 0, 0, 0, [], 10)) (.lf (os, hs, st, tl, th, v10a'_0_t12 u v 0 os hs st tl th ms [] [] 0 0 0 [] (bmax 0 (IntKind.i64.wrap (rd - wr))) (bmin 2000 (IntKind.i64.wrap (rd + wr))) [] false 0, 0))) (.nn)))) (.nn)) (.nn)))) (.nn))) (.nn))) (.nn))) (.nn)
noncomputable def g10 (V : Lr) (os hs : List (List AV)) (st tl th : Int) (ms : List (List AV)) (u v rd wr : Int) : Bool := (t10 V os hs st tl th ms u v rd wr).g
-- SPEC 10
end Go.Proofs.Ytoglnllbopcejaa

set_option maxRecDepth 100000
set_option linter.unusedVariables false
namespace Go.Proofs.Ytoglnllbopcejaa
open Go Go.Ev
theorem gm_drop {L : List Mk} {i : Nat} (h : i < L.length) : L.drop i = gm L i :: L.drop (i + 1) := by
  unfold gm
  exact drop_cons _ h
end Go.Proofs.Ytoglnllbopcejaa

set_option maxRecDepth 100000
namespace Go.Proofs.Ytoglnllbopcejaa
open Go Go.Ev
def its : ISpec := fun g caps => cond (Nat.beq g 60) (match caps with
  | [.rp [.sl 32] [.rs 32 es] 0] => cond (okS es) (some ((sidesX es).map encS)) none
  | _ => none) none
theorem its_ok : IOK Try.prog its := by
  intro g caps xs h
  unfold its at h
  obtain ⟨hg, h2⟩ := cond_some h
  clear h
  have hg := Nat.eq_of_beq_eq_true hg
  subst hg
  split at h2
  · obtain ⟨hc, h3⟩ := cond_some h2
    cases h3
    exact sides_con hc
  · cases h2
noncomputable def S1 : Ev.Spec := runS Try.prog its ro S0 300 5 12
theorem S1_ok : SpecOK Try.prog S1 := runS_ok its_ok mixed names S0_ok 12
theorem lives_eq : S1 8 [] [] = some (true, .b true, []) := by kernel_rfl
theorem lives_con : Con Try.prog 8 [] [] (.b true) [] := S1_ok _ _ _ _ _ _ lives_eq rfl
end Go.Proofs.Ytoglnllbopcejaa

set_option maxRecDepth 100000
set_option linter.unusedVariables false
namespace Go.Proofs.Ytoglnllbopcejaa
open Go Go.Ev
structure Lq where
  g7 : List (List AV) → List (List AV) → Int → Int → Int → List (List AV) → Bool
  w7 : List (List AV) → List (List AV) → Int → Int → Int → List (List AV) → Bool
  g9 : List (List AV) → List (List AV) → Int → Int → Int → List (List AV) → Int → Int → Int → Int → Bool
  p9 : List (List AV) → List (List AV) → Int → Int → Int → List (List AV) → Int → Int → Int → Int → (List (List AV)) × (List (List AV)) × Int × Int × Int × (List (List AV)) × Int
  g10 : List (List AV) → List (List AV) → Int → Int → Int → List (List AV) → Int → Int → Int → Int → Bool
  p10 : List (List AV) → List (List AV) → Int → Int → Int → List (List AV) → Int → Int → Int → Int → (List (List AV)) × (List (List AV)) × Int × Int × Int × (List (List AV)) × Int
  g11 : List (List AV) → List (List AV) → Int → Int → Int → List (List AV) → List (List AV) → List (List AV) → Int → Int → Int → List (List AV) → Bool
  w11 : List (List AV) → List (List AV) → Int → Int → Int → List (List AV) → List (List AV) → List (List AV) → Int → Int → Int → List (List AV) → Bool
noncomputable def Q0 : Lq := ⟨g7, w7_0, g9 V0, fun os hs st tl th ms u v rd wr => (t9 V0 os hs st tl th ms u v rd wr).val, g10 U0, fun os hs st tl th ms u v rd wr => (t10 U0 os hs st tl th ms u v rd wr).val, g11, w11_0⟩
end Go.Proofs.Ytoglnllbopcejaa

set_option maxRecDepth 100000
set_option maxHeartbeats 0
set_option linter.unusedVariables false
namespace Go.Proofs.Ytoglnllbopcejaa
open Go Go.Ev

noncomputable def c3 : Code := match Try.f3.body with | some c => c | _ => .skip
noncomputable def t3 (V : Lq) (os hs : List (List AV)) (st tl th : Int) (ms : List (List AV)) (u v rd wr : Int) : Tr ((Bool)) :=
  .cn (V.g7 os hs st tl th ms) (.cn (V.w7 os hs st tl th ms) (.lf (true)) (.cn (V.g9 os hs st tl th ms u v rd wr) (.cn (V.g10 os hs st tl th ms u v rd wr) (.cn (V.g11 (V.p9 os hs st tl th ms u v rd wr).fst (V.p9 os hs st tl th ms u v rd wr).snd.fst (V.p9 os hs st tl th ms u v rd wr).snd.snd.fst (V.p9 os hs st tl th ms u v rd wr).snd.snd.snd.fst (V.p9 os hs st tl th ms u v rd wr).snd.snd.snd.snd.fst (V.p9 os hs st tl th ms u v rd wr).snd.snd.snd.snd.snd.fst (V.p10 os hs st tl th ms u v rd wr).fst (V.p10 os hs st tl th ms u v rd wr).snd.fst (V.p10 os hs st tl th ms u v rd wr).snd.snd.fst (V.p10 os hs st tl th ms u v rd wr).snd.snd.snd.fst (V.p10 os hs st tl th ms u v rd wr).snd.snd.snd.snd.fst (V.p10 os hs st tl th ms u v rd wr).snd.snd.snd.snd.snd.fst) (.cn (V.w11 (V.p9 os hs st tl th ms u v rd wr).fst (V.p9 os hs st tl th ms u v rd wr).snd.fst (V.p9 os hs st tl th ms u v rd wr).snd.snd.fst (V.p9 os hs st tl th ms u v rd wr).snd.snd.snd.fst (V.p9 os hs st tl th ms u v rd wr).snd.snd.snd.snd.fst (V.p9 os hs st tl th ms u v rd wr).snd.snd.snd.snd.snd.fst (V.p10 os hs st tl th ms u v rd wr).fst (V.p10 os hs st tl th ms u v rd wr).snd.fst (V.p10 os hs st tl th ms u v rd wr).snd.snd.fst (V.p10 os hs st tl th ms u v rd wr).snd.snd.snd.fst (V.p10 os hs st tl th ms u v rd wr).snd.snd.snd.snd.fst (V.p10 os hs st tl th ms u v rd wr).snd.snd.snd.snd.snd.fst) (.cn ((V.p9 os hs st tl th ms u v rd wr).snd.snd.snd.snd.snd.snd == (V.p10 os hs st tl th ms u v rd wr).snd.snd.snd.snd.snd.snd) (.lf (true)) (.lf (false))) (.lf (false))) (.nn)) (.nn)) (.nn))) (.nn)
noncomputable def g3 (V : Lq) (os hs : List (List AV)) (st tl th : Int) (ms : List (List AV)) (u v rd wr : Int) : Bool := (t3 V os hs st tl th ms u v rd wr).g
noncomputable def w3_0 (V : Lq) (os hs : List (List AV)) (st tl th : Int) (ms : List (List AV)) (u v rd wr : Int) : Bool := (t3 V os hs st tl th ms u v rd wr).val
noncomputable def e3 (args : List AV) (rows : List Blk) : Option (Bool × AV × List Blk) := match args, rows with
  | [.agg [.rs 32 os, .rs 55 hs, .i .i64 st, .i .i64 tl, .i .i64 th, .rs 67 ms], .agg [.i .i64 u, .i .i64 v], .i .i64 rd, .i .i64 wr], [] => some (g3 Q0 os hs st tl th ms u v rd wr, .b (w3_0 Q0 os hs st tl th ms u v rd wr), [])
  | _, _ => none
-- SPEC 3
end Go.Proofs.Ytoglnllbopcejaa

set_option maxRecDepth 100000
set_option linter.unusedVariables false
namespace Go.Proofs.Ytoglnllbopcejaa
open Go Go.Ev
theorem pt_of {a : AV} (h : TyArg Try.prog 32 a) : ∃ u v, a = .agg [.i .i64 u, .i .i64 v] ∧ (IntKind.i64.min ≤ u ∧ u ≤ IntKind.i64.max) ∧ IntKind.i64.min ≤ v ∧ v ≤ IntKind.i64.max := by
  obtain ⟨bs, rfl, hw⟩ := ty_agg (c := [.int .i64, .int .i64]) (by kernel_rfl) (by kernel_rfl) h
  obtain ⟨b0, q0, rfl, w0, hw⟩ := WTs_cons hw
  obtain ⟨b1, q1, rfl, w1, hw⟩ := WTs_cons hw
  obtain rfl := WTs_nil hw
  obtain ⟨u, rfl, r1⟩ := WT_int w0
  obtain ⟨v, rfl, r2⟩ := WT_int w1
  exact ⟨u, v, rfl, r1, r2⟩
theorem plain_rows {os : List (List AV)} (h : ∀ x, x ∈ os → ∃ u v, x = [.i .i64 u, .i .i64 v] ∧ (IntKind.i64.min ≤ u ∧ u ≤ IntKind.i64.max) ∧ (IntKind.i64.min ≤ v ∧ v ≤ IntKind.i64.max)) : (sidesX os).all (fun x => plainL (encS x)) = true := by
  have key : ∀ i k, IntKind.i64.min ≤ fI (os.getD i []) k ∧ fI (os.getD i []) k ≤ IntKind.i64.max := by
    intro i k
    by_cases hi : i < os.length
    · obtain ⟨u, v, e, hu, hv⟩ := h (os.getD i []) (by simp [List.getD_eq_getElem?_getD, List.getElem?_eq_getElem hi])
      rw [e]
      match k with
      | 0 => exact hu
      | 1 => exact hv
      | k + 2 =>
        rw [show fI [AV.i .i64 u, AV.i .i64 v] (k + 2) = 0 from rfl]
        decide
    · rw [show os.getD i [] = [] by simp [List.getD_eq_getElem?_getD, List.getElem?_eq_none (show os.length ≤ i by omega)]]
      rw [show fI [] k = 0 from rfl]
      decide
  refine List.all_eq_true.2 fun x hx => ?_
  obtain ⟨i, _, rfl⟩ := List.mem_map.1 hx
  have p : ∀ i k, plain (.i .i64 (fI (os.getD i []) k)) = true := fun i k => by
    have := key i k
    simp only [plain, Bool.and_eq_true, decide_eq_true_eq]
    exact this
  generalize (i + 1) % os.length = j
  show ((plain (.i .i64 (fI (os.getD i []) 0)) && (plain (.i .i64 (fI (os.getD i []) 1)) && (plain (.i .i64 (fI (os.getD j []) 0)) && (plain (.i .i64 (fI (os.getD j []) 1)) && true)))) && true) = true
  rw [p, p, p, p]
  rfl
def plainS (os : List (List AV)) : Prop := (sidesX os).all (fun x => plainL (encS x)) = true
theorem skin_of {a : AV} (h : TyArg Try.prog 30 a) : ∃ os hs st tl th L, a = .agg [.rs 32 os, .rs 55 hs, .i .i64 st, .i .i64 tl, .i .i64 th, .rs 67 (List.map en L)] ∧ plainS os := by
  obtain ⟨bs, rfl, hw⟩ := ty_agg (c := [.sl 32, .sl 55, .int .i64, .int .i64, .int .i64, .sl 67]) (by kernel_rfl) (by kernel_rfl) h
  obtain ⟨b0, q0, rfl, w0, hw⟩ := WTs_cons hw
  obtain ⟨b1, q1, rfl, w1, hw⟩ := WTs_cons hw
  obtain ⟨b2, q2, rfl, w2, hw⟩ := WTs_cons hw
  obtain ⟨b3, q3, rfl, w3, hw⟩ := WTs_cons hw
  obtain ⟨b4, q4, rfl, w4, hw⟩ := WTs_cons hw
  obtain ⟨b5, q5, rfl, w5, hw⟩ := WTs_cons hw
  obtain rfl := WTs_nil hw
  obtain ⟨os, rfl, o1, o2, o3⟩ := WT_sl w0
  obtain ⟨hs, rfl, _⟩ := WT_sl w1
  obtain ⟨st, rfl, _⟩ := WT_int w2
  obtain ⟨tl, rfl, _⟩ := WT_int w3
  obtain ⟨th, rfl, _⟩ := WT_int w4
  obtain ⟨ms, rfl, m1, m2, m3⟩ := WT_sl w5
  have hm : (ms.map fun e => (⟨fI e 0, fI e 1, fI e 2, fI e 3⟩ : Mk)).map en = ms := by
    rw [List.map_map]
    conv => rhs; rw [← List.map_id ms]
    refine List.map_congr_left fun x hx => ?_
    have e : cts Try.prog 67 = [.int .i64, .int .i64, .int .i64, .int .i64] := by kernel_rfl
    have hl := m2 x hx
    have hc := m3 x hx
    rw [e] at hl hc
    match x, hl with
    | [a, b, c, d], _ =>
      obtain ⟨x0, rfl, _⟩ := WT_int (show WT Try.prog (.int .i64) a from hc 0 (by simp))
      obtain ⟨x1, rfl, _⟩ := WT_int (show WT Try.prog (.int .i64) b from hc 1 (by simp))
      obtain ⟨x2, rfl, _⟩ := WT_int (show WT Try.prog (.int .i64) c from hc 2 (by simp))
      obtain ⟨x3, rfl, _⟩ := WT_int (show WT Try.prog (.int .i64) d from hc 3 (by simp))
      rfl
  refine ⟨os, hs, st, tl, th, ms.map fun e => (⟨fI e 0, fI e 1, fI e 2, fI e 3⟩ : Mk), by rw [hm], plain_rows fun x hx => ?_⟩
  have e : cts Try.prog 32 = [.int .i64, .int .i64] := by kernel_rfl
  have hl := o2 x hx
  have hc := o3 x hx
  rw [e] at hl hc
  match x, hl with
  | [a, b], _ =>
    obtain ⟨u, rfl, u1⟩ := WT_int (show WT Try.prog (.int .i64) a from hc 0 (by simp))
    obtain ⟨v, rfl, v1⟩ := WT_int (show WT Try.prog (.int .i64) b from hc 1 (by simp))
    exact ⟨u, v, rfl, u1, v1⟩
theorem great_len {os hs ms : List (List AV)} (h : greatB os hs ms = false) : os.length ≤ 30 ∧ hs.length ≤ 30 ∧ ms.length ≤ 60 := by
  unfold greatB at h
  rw [Bool.or_eq_false_iff, Bool.or_eq_false_iff, Bool.or_eq_false_iff] at h
  have h1 := of_decide_eq_false h.1
  have h2 := of_decide_eq_false h.2.1
  have h3 := of_decide_eq_false h.2.2.1
  omega
theorem okS_of {os : List (List AV)} (h : plainS os) (hl : os.length ≤ 30) : okS os = true := by
  unfold okS
  rw [show (sidesX os).all (fun x => plainL (encS x)) = true from h, Nat.ble_eq_true_of_le (show os.length ≤ 9223372036854775806 by omega)]
  rfl

end Go.Proofs.Ytoglnllbopcejaa

set_option maxRecDepth 100000
set_option linter.unusedVariables false
namespace Go.Proofs.Ytoglnllbopcejaa
open Go Go.Ev
structure Ln where
  q : Lq
  g13 : List (List AV) → List (List AV) → Int → Int → Int → List (List AV) → Int → Int → Bool
  p13 : List (List AV) → List (List AV) → Int → Int → Int → List (List AV) → Int → Int → Int × Int × Int
noncomputable def N0 : Ln := ⟨Q0, g13, fun os hs st tl th ms u v => (t13 os hs st tl th ms u v).val⟩
end Go.Proofs.Ytoglnllbopcejaa

set_option maxRecDepth 100000
set_option maxHeartbeats 0
set_option linter.unusedVariables false
namespace Go.Proofs.Ytoglnllbopcejaa
open Go Go.Ev

noncomputable def c5 : Code := match Try.f5.body with | some c => c | _ => .skip
noncomputable def t5 (V : Ln) (os hs : List (List AV)) (st tl th : Int) (ms : List (List AV)) (xu xv xr xw u v : Int) : Tr ((Bool)) :=
  .cn (V.q.g7 os hs st tl th ms) (.cn (V.q.w7 os hs st tl th ms) (.lf (true)) (.cn (V.q.g9 os hs st tl th ms xu xv xr xw) (.cn ((V.q.p9 os hs st tl th ms xu xv xr xw).snd.snd.snd.snd.snd.snd != 0) (.cn (V.q.g11 (V.q.p9 os hs st tl th ms xu xv xr xw).fst (V.q.p9 os hs st tl th ms xu xv xr xw).snd.fst (V.q.p9 os hs st tl th ms xu xv xr xw).snd.snd.fst (V.q.p9 os hs st tl th ms xu xv xr xw).snd.snd.snd.fst (V.q.p9 os hs st tl th ms xu xv xr xw).snd.snd.snd.snd.fst (V.q.p9 os hs st tl th ms xu xv xr xw).snd.snd.snd.snd.snd.fst [] [] 0 0 0 []) (.cn (V.q.w11 (V.q.p9 os hs st tl th ms xu xv xr xw).fst (V.q.p9 os hs st tl th ms xu xv xr xw).snd.fst (V.q.p9 os hs st tl th ms xu xv xr xw).snd.snd.fst (V.q.p9 os hs st tl th ms xu xv xr xw).snd.snd.snd.fst (V.q.p9 os hs st tl th ms xu xv xr xw).snd.snd.snd.snd.fst (V.q.p9 os hs st tl th ms xu xv xr xw).snd.snd.snd.snd.snd.fst [] [] 0 0 0 []) (.lf (true)) (.lf (false))) (.nn)) (.cn (V.q.g9 (V.q.p9 os hs st tl th ms xu xv xr xw).fst (V.q.p9 os hs st tl th ms xu xv xr xw).snd.fst (V.q.p9 os hs st tl th ms xu xv xr xw).snd.snd.fst (V.q.p9 os hs st tl th ms xu xv xr xw).snd.snd.snd.fst (V.q.p9 os hs st tl th ms xu xv xr xw).snd.snd.snd.snd.fst (V.q.p9 os hs st tl th ms xu xv xr xw).snd.snd.snd.snd.snd.fst xu xv xr xw) (.cn ((V.q.p9 (V.q.p9 os hs st tl th ms xu xv xr xw).fst (V.q.p9 os hs st tl th ms xu xv xr xw).snd.fst (V.q.p9 os hs st tl th ms xu xv xr xw).snd.snd.fst (V.q.p9 os hs st tl th ms xu xv xr xw).snd.snd.snd.fst (V.q.p9 os hs st tl th ms xu xv xr xw).snd.snd.snd.snd.fst (V.q.p9 os hs st tl th ms xu xv xr xw).snd.snd.snd.snd.snd.fst xu xv xr xw).snd.snd.snd.snd.snd.snd != 0) (.lf (false)) (.cn (V.q.g11 (V.q.p9 os hs st tl th ms xu xv xr xw).fst (V.q.p9 os hs st tl th ms xu xv xr xw).snd.fst (V.q.p9 os hs st tl th ms xu xv xr xw).snd.snd.fst (V.q.p9 os hs st tl th ms xu xv xr xw).snd.snd.snd.fst (V.q.p9 os hs st tl th ms xu xv xr xw).snd.snd.snd.snd.fst (V.q.p9 os hs st tl th ms xu xv xr xw).snd.snd.snd.snd.snd.fst (V.q.p9 (V.q.p9 os hs st tl th ms xu xv xr xw).fst (V.q.p9 os hs st tl th ms xu xv xr xw).snd.fst (V.q.p9 os hs st tl th ms xu xv xr xw).snd.snd.fst (V.q.p9 os hs st tl th ms xu xv xr xw).snd.snd.snd.fst (V.q.p9 os hs st tl th ms xu xv xr xw).snd.snd.snd.snd.fst (V.q.p9 os hs st tl th ms xu xv xr xw).snd.snd.snd.snd.snd.fst xu xv xr xw).fst (V.q.p9 (V.q.p9 os hs st tl th ms xu xv xr xw).fst (V.q.p9 os hs st tl th ms xu xv xr xw).snd.fst (V.q.p9 os hs st tl th ms xu xv xr xw).snd.snd.fst (V.q.p9 os hs st tl th ms xu xv xr xw).snd.snd.snd.fst (V.q.p9 os hs st tl th ms xu xv xr xw).snd.snd.snd.snd.fst (V.q.p9 os hs st tl th ms xu xv xr xw).snd.snd.snd.snd.snd.fst xu xv xr xw).snd.fst (V.q.p9 (V.q.p9 os hs st tl th ms xu xv xr xw).fst (V.q.p9 os hs st tl th ms xu xv xr xw).snd.fst (V.q.p9 os hs st tl th ms xu xv xr xw).snd.snd.fst (V.q.p9 os hs st tl th ms xu xv xr xw).snd.snd.snd.fst (V.q.p9 os hs st tl th ms xu xv xr xw).snd.snd.snd.snd.fst (V.q.p9 os hs st tl th ms xu xv xr xw).snd.snd.snd.snd.snd.fst xu xv xr xw).snd.snd.fst (V.q.p9 (V.q.p9 os hs st tl th ms xu xv xr xw).fst (V.q.p9 os hs st tl th ms xu xv xr xw).snd.fst (V.q.p9 os hs st tl th ms xu xv xr xw).snd.snd.fst (V.q.p9 os hs st tl th ms xu xv xr xw).snd.snd.snd.fst (V.q.p9 os hs st tl th ms xu xv xr xw).snd.snd.snd.snd.fst (V.q.p9 os hs st tl th ms xu xv xr xw).snd.snd.snd.snd.snd.fst xu xv xr xw).snd.snd.snd.fst (V.q.p9 (V.q.p9 os hs st tl th ms xu xv xr xw).fst (V.q.p9 os hs st tl th ms xu xv xr xw).snd.fst (V.q.p9 os hs st tl th ms xu xv xr xw).snd.snd.fst (V.q.p9 os hs st tl th ms xu xv xr xw).snd.snd.snd.fst (V.q.p9 os hs st tl th ms xu xv xr xw).snd.snd.snd.snd.fst (V.q.p9 os hs st tl th ms xu xv xr xw).snd.snd.snd.snd.snd.fst xu xv xr xw).snd.snd.snd.snd.fst (V.q.p9 (V.q.p9 os hs st tl th ms xu xv xr xw).fst (V.q.p9 os hs st tl th ms xu xv xr xw).snd.fst (V.q.p9 os hs st tl th ms xu xv xr xw).snd.snd.fst (V.q.p9 os hs st tl th ms xu xv xr xw).snd.snd.snd.fst (V.q.p9 os hs st tl th ms xu xv xr xw).snd.snd.snd.snd.fst (V.q.p9 os hs st tl th ms xu xv xr xw).snd.snd.snd.snd.snd.fst xu xv xr xw).snd.snd.snd.snd.snd.fst) (.cn (!V.q.w11 (V.q.p9 os hs st tl th ms xu xv xr xw).fst (V.q.p9 os hs st tl th ms xu xv xr xw).snd.fst (V.q.p9 os hs st tl th ms xu xv xr xw).snd.snd.fst (V.q.p9 os hs st tl th ms xu xv xr xw).snd.snd.snd.fst (V.q.p9 os hs st tl th ms xu xv xr xw).snd.snd.snd.snd.fst (V.q.p9 os hs st tl th ms xu xv xr xw).snd.snd.snd.snd.snd.fst (V.q.p9 (V.q.p9 os hs st tl th ms xu xv xr xw).fst (V.q.p9 os hs st tl th ms xu xv xr xw).snd.fst (V.q.p9 os hs st tl th ms xu xv xr xw).snd.snd.fst (V.q.p9 os hs st tl th ms xu xv xr xw).snd.snd.snd.fst (V.q.p9 os hs st tl th ms xu xv xr xw).snd.snd.snd.snd.fst (V.q.p9 os hs st tl th ms xu xv xr xw).snd.snd.snd.snd.snd.fst xu xv xr xw).fst (V.q.p9 (V.q.p9 os hs st tl th ms xu xv xr xw).fst (V.q.p9 os hs st tl th ms xu xv xr xw).snd.fst (V.q.p9 os hs st tl th ms xu xv xr xw).snd.snd.fst (V.q.p9 os hs st tl th ms xu xv xr xw).snd.snd.snd.fst (V.q.p9 os hs st tl th ms xu xv xr xw).snd.snd.snd.snd.fst (V.q.p9 os hs st tl th ms xu xv xr xw).snd.snd.snd.snd.snd.fst xu xv xr xw).snd.fst (V.q.p9 (V.q.p9 os hs st tl th ms xu xv xr xw).fst (V.q.p9 os hs st tl th ms xu xv xr xw).snd.fst (V.q.p9 os hs st tl th ms xu xv xr xw).snd.snd.fst (V.q.p9 os hs st tl th ms xu xv xr xw).snd.snd.snd.fst (V.q.p9 os hs st tl th ms xu xv xr xw).snd.snd.snd.snd.fst (V.q.p9 os hs st tl th ms xu xv xr xw).snd.snd.snd.snd.snd.fst xu xv xr xw).snd.snd.fst (V.q.p9 (V.q.p9 os hs st tl th ms xu xv xr xw).fst (V.q.p9 os hs st tl th ms xu xv xr xw).snd.fst (V.q.p9 os hs st tl th ms xu xv xr xw).snd.snd.fst (V.q.p9 os hs st tl th ms xu xv xr xw).snd.snd.snd.fst (V.q.p9 os hs st tl th ms xu xv xr xw).snd.snd.snd.snd.fst (V.q.p9 os hs st tl th ms xu xv xr xw).snd.snd.snd.snd.snd.fst xu xv xr xw).snd.snd.snd.fst (V.q.p9 (V.q.p9 os hs st tl th ms xu xv xr xw).fst (V.q.p9 os hs st tl th ms xu xv xr xw).snd.fst (V.q.p9 os hs st tl th ms xu xv xr xw).snd.snd.fst (V.q.p9 os hs st tl th ms xu xv xr xw).snd.snd.snd.fst (V.q.p9 os hs st tl th ms xu xv xr xw).snd.snd.snd.snd.fst (V.q.p9 os hs st tl th ms xu xv xr xw).snd.snd.snd.snd.snd.fst xu xv xr xw).snd.snd.snd.snd.fst (V.q.p9 (V.q.p9 os hs st tl th ms xu xv xr xw).fst (V.q.p9 os hs st tl th ms xu xv xr xw).snd.fst (V.q.p9 os hs st tl th ms xu xv xr xw).snd.snd.fst (V.q.p9 os hs st tl th ms xu xv xr xw).snd.snd.snd.fst (V.q.p9 os hs st tl th ms xu xv xr xw).snd.snd.snd.snd.fst (V.q.p9 os hs st tl th ms xu xv xr xw).snd.snd.snd.snd.snd.fst xu xv xr xw).snd.snd.snd.snd.snd.fst) (.lf (false)) (.cn (V.g13 (V.q.p9 os hs st tl th ms xu xv xr xw).fst (V.q.p9 os hs st tl th ms xu xv xr xw).snd.fst (V.q.p9 os hs st tl th ms xu xv xr xw).snd.snd.fst (V.q.p9 os hs st tl th ms xu xv xr xw).snd.snd.snd.fst (V.q.p9 os hs st tl th ms xu xv xr xw).snd.snd.snd.snd.fst (V.q.p9 os hs st tl th ms xu xv xr xw).snd.snd.snd.snd.snd.fst xu xv) (.cn ((V.p13 (V.q.p9 os hs st tl th ms xu xv xr xw).fst (V.q.p9 os hs st tl th ms xu xv xr xw).snd.fst (V.q.p9 os hs st tl th ms xu xv xr xw).snd.snd.fst (V.q.p9 os hs st tl th ms xu xv xr xw).snd.snd.snd.fst (V.q.p9 os hs st tl th ms xu xv xr xw).snd.snd.snd.snd.fst (V.q.p9 os hs st tl th ms xu xv xr xw).snd.snd.snd.snd.snd.fst xu xv).snd.snd != 0) (.lf (false)) (.cn (decide ((V.p13 (V.q.p9 os hs st tl th ms xu xv xr xw).fst (V.q.p9 os hs st tl th ms xu xv xr xw).snd.fst (V.q.p9 os hs st tl th ms xu xv xr xw).snd.snd.fst (V.q.p9 os hs st tl th ms xu xv xr xw).snd.snd.snd.fst (V.q.p9 os hs st tl th ms xu xv xr xw).snd.snd.snd.snd.fst (V.q.p9 os hs st tl th ms xu xv xr xw).snd.snd.snd.snd.snd.fst xu xv).fst < IntKind.i64.wrap (xr - xw))) (.lf (false)) (.cn (decide ((V.p13 (V.q.p9 os hs st tl th ms xu xv xr xw).fst (V.q.p9 os hs st tl th ms xu xv xr xw).snd.fst (V.q.p9 os hs st tl th ms xu xv xr xw).snd.snd.fst (V.q.p9 os hs st tl th ms xu xv xr xw).snd.snd.snd.fst (V.q.p9 os hs st tl th ms xu xv xr xw).snd.snd.snd.snd.fst (V.q.p9 os hs st tl th ms xu xv xr xw).snd.snd.snd.snd.snd.fst xu xv).snd.fst > IntKind.i64.wrap (xr + xw))) (.lf (false)) (.cn (decide ((V.p13 (V.q.p9 os hs st tl th ms xu xv xr xw).fst (V.q.p9 os hs st tl th ms xu xv xr xw).snd.fst (V.q.p9 os hs st tl th ms xu xv xr xw).snd.snd.fst (V.q.p9 os hs st tl th ms xu xv xr xw).snd.snd.snd.fst (V.q.p9 os hs st tl th ms xu xv xr xw).snd.snd.snd.snd.fst (V.q.p9 os hs st tl th ms xu xv xr xw).snd.snd.snd.snd.snd.fst xu xv).fst > (V.p13 (V.q.p9 os hs st tl th ms xu xv xr xw).fst (V.q.p9 os hs st tl th ms xu xv xr xw).snd.fst (V.q.p9 os hs st tl th ms xu xv xr xw).snd.snd.fst (V.q.p9 os hs st tl th ms xu xv xr xw).snd.snd.snd.fst (V.q.p9 os hs st tl th ms xu xv xr xw).snd.snd.snd.snd.fst (V.q.p9 os hs st tl th ms xu xv xr xw).snd.snd.snd.snd.snd.fst xu xv).snd.fst)) (.lf (false)) (.cn (V.g13 os hs st tl th ms u v) (.cn (V.g13 (V.q.p9 os hs st tl th ms xu xv xr xw).fst (V.q.p9 os hs st tl th ms xu xv xr xw).snd.fst (V.q.p9 os hs st tl th ms xu xv xr xw).snd.snd.fst (V.q.p9 os hs st tl th ms xu xv xr xw).snd.snd.snd.fst (V.q.p9 os hs st tl th ms xu xv xr xw).snd.snd.snd.snd.fst (V.q.p9 os hs st tl th ms xu xv xr xw).snd.snd.snd.snd.snd.fst u v) (.cn ((V.p13 os hs st tl th ms u v).snd.snd == (V.p13 (V.q.p9 os hs st tl th ms xu xv xr xw).fst (V.q.p9 os hs st tl th ms xu xv xr xw).snd.fst (V.q.p9 os hs st tl th ms xu xv xr xw).snd.snd.fst (V.q.p9 os hs st tl th ms xu xv xr xw).snd.snd.snd.fst (V.q.p9 os hs st tl th ms xu xv xr xw).snd.snd.snd.snd.fst (V.q.p9 os hs st tl th ms xu xv xr xw).snd.snd.snd.snd.snd.fst u v).snd.snd) (.cn ((V.p13 os hs st tl th ms u v).snd.snd != 0) (.lf (true)) (.cn (decide ((V.p13 (V.q.p9 os hs st tl th ms xu xv xr xw).fst (V.q.p9 os hs st tl th ms xu xv xr xw).snd.fst (V.q.p9 os hs st tl th ms xu xv xr xw).snd.snd.fst (V.q.p9 os hs st tl th ms xu xv xr xw).snd.snd.snd.fst (V.q.p9 os hs st tl th ms xu xv xr xw).snd.snd.snd.snd.fst (V.q.p9 os hs st tl th ms xu xv xr xw).snd.snd.snd.snd.snd.fst u v).fst ≥ (V.p13 os hs st tl th ms u v).fst)) (.cn (decide ((V.p13 (V.q.p9 os hs st tl th ms xu xv xr xw).fst (V.q.p9 os hs st tl th ms xu xv xr xw).snd.fst (V.q.p9 os hs st tl th ms xu xv xr xw).snd.snd.fst (V.q.p9 os hs st tl th ms xu xv xr xw).snd.snd.snd.fst (V.q.p9 os hs st tl th ms xu xv xr xw).snd.snd.snd.snd.fst (V.q.p9 os hs st tl th ms xu xv xr xw).snd.snd.snd.snd.snd.fst u v).snd.fst ≤ (V.p13 os hs st tl th ms u v).snd.fst)) (.lf (true)) (.lf (false))) (.lf (false)))) (.lf (false))) (.nn)) (.nn)))))) (.nn))) (.nn))) (.nn))) (.nn))) (.nn)
noncomputable def g5 (V : Ln) (os hs : List (List AV)) (st tl th : Int) (ms : List (List AV)) (xu xv xr xw u v : Int) : Bool := (t5 V os hs st tl th ms xu xv xr xw u v).g
noncomputable def w5_0 (V : Ln) (os hs : List (List AV)) (st tl th : Int) (ms : List (List AV)) (xu xv xr xw u v : Int) : Bool := (t5 V os hs st tl th ms xu xv xr xw u v).val
noncomputable def e5 (args : List AV) (rows : List Blk) : Option (Bool × AV × List Blk) := match args, rows with
  | [.agg [.rs 32 os, .rs 55 hs, .i .i64 st, .i .i64 tl, .i .i64 th, .rs 67 ms], .agg [.i .i64 xu, .i .i64 xv, .i .i64 xr, .i .i64 xw], .agg [.i .i64 u, .i .i64 v]], [] => some (g5 N0 os hs st tl th ms xu xv xr xw u v, .b (w5_0 N0 os hs st tl th ms xu xv xr xw u v), [])
  | _, _ => none
-- SPEC 5
end Go.Proofs.Ytoglnllbopcejaa

set_option maxRecDepth 100000
set_option linter.unusedVariables false
namespace Go.Proofs.Ytoglnllbopcejaa
open Go Go.Ev
def loX (st tl : Int) (L : List Mk) (u v : Int) : Int := (L.map en).foldl (loI st u v) tl
def hiX (st th : Int) (L : List Mk) (u v : Int) : Int := (L.map en).foldl (hiI st u v) th
def boundsX (os hs : List (List AV)) (st tl th : Int) (L : List Mk) (u v : Int) : Int × Int × Int :=
  cond (checkW os hs (L.map en) st tl th != 0) (0, 0, checkW os hs (L.map en) st tl th) (cond (!hasB os hs u v) (0, 0, 7) (loX st tl L u v, hiX st th L u v, 0))
theorem k13 (os hs : List (List AV)) (st tl th : Int) (L : List Mk) (u v : Int) (ho : okS os = true) : g13 os hs st tl th (L.map en) u v = true ∧ (t13 os hs st tl th (L.map en) u v).val = boundsX os hs st tl th L u v := by
  refine TrP.ok (t := t13 os hs st tl th (L.map en) u v) (p := fun x => x = boundsX os hs st tl th L u v) ?_
  unfold t13 boundsX
  refine .t (k15 os hs st tl th _ ho).1 ?_
  rw [(k15 os hs st tl th _ ho).2]
  cases hc : checkW os hs (L.map en) st tl th != 0
  · have hF := check_fine.1 (by simpa using hc : checkW os hs (L.map en) st tl th = 0)
    have h6 := hF.six
    have h40 := hF.len
    refine .f rfl (.t (k21 os hs u v ho (by omega)).1 ?_)
    rw [(k21 os hs u v ho (by omega)).2]
    cases hasB os hs u v
    · exact .t rfl rfl
    · have hm : (L.map en).length < 9223372036854775807 := by rw [List.length_map]; omega
      have h3 := k33 os hs st tl th (L.map en) u v hm
      refine .f rfl (.t h3.1 ?_)
      rw [h3.2.1, h3.2.2]
      rfl
  · exact .t rfl rfl
section
variable {os hs : List (List AV)} {st tl th : Int} {L : List Mk}
theorem loX_is (hF : Fine os hs st tl th L) {u v : Int} (hu : In4 u) (hv : In4 v) : loX st tl L u v = tl ∨ ∃ m, m ∈ L ∧ loX st tl L u v = m.lo - st * farX u v m.u m.v := by
  obtain ⟨_, _, h3⟩ := lows (tl := tl) hF.ste hu hv (mk_all hF.marks)
  rcases h3 with h3 | ⟨e, he, h3⟩
  · exact .inl h3
  · obtain ⟨m, hm, rfl⟩ := List.mem_map.1 he
    exact .inr ⟨m, hm, h3⟩
theorem hiX_is (hF : Fine os hs st tl th L) {u v : Int} (hu : In4 u) (hv : In4 v) : hiX st th L u v = th ∨ ∃ m, m ∈ L ∧ hiX st th L u v = m.hi + st * farX u v m.u m.v := by
  obtain ⟨_, _, h3⟩ := highs (th := th) hF.ste hu hv (mk_all hF.marks)
  rcases h3 with h3 | ⟨e, he, h3⟩
  · exact .inl h3
  · obtain ⟨m, hm, rfl⟩ := List.mem_map.1 he
    exact .inr ⟨m, hm, h3⟩
end
theorem probeX_fine {os hs : List (List AV)} {st tl th : Int} {L : List Mk} {u v rd wr : Int} (hF : Fine os hs st tl th L) (h2 : hasB os hs u v = true) (h3 : 0 ≤ rd ∧ rd ≤ 2000) (h4 : 0 ≤ wr ∧ wr ≤ 2000) (hG : Fine os hs st tl th (insM (pr u v rd wr) L)) :
    probeX os hs st tl th L u v rd wr = (os, hs, st, tl, th, (insM (pr u v rd wr) L).map en, 0) := by
  unfold probeX
  rw [check_fine.2 hF, check_fine.2 hG, h2, inB_true.2 h3, inB_true.2 h4, show decide (((insM (pr u v rd wr) L).length : Int) > 40) = false from decide_eq_false (by have := hG.len; omega)]
  rfl
theorem boundsX_fine {os hs : List (List AV)} {st tl th : Int} {L : List Mk} {u v : Int} (hF : Fine os hs st tl th L) : boundsX os hs st tl th L u v = cond (!hasB os hs u v) (0, 0, 7) (loX st tl L u v, hiX st th L u v, 0) := by
  unfold boundsX
  rw [check_fine.2 hF]
  rfl
end Go.Proofs.Ytoglnllbopcejaa
