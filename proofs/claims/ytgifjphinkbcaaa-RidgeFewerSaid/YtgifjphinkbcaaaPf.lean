/-
  The evaluator, its soundness, and the functions that several laws reach: what they compute, for all arguments; no conditions.
-/
import Derived.Test.YtgifjphinkbcaaaPe
import Derived.Test.YtgifjphinkbcaaaPc
import Derived.Test.YtgifjphinkbcaaaPd
set_option linter.unusedVariables false
set_option maxRecDepth 100000
set_option maxHeartbeats 0
set_option linter.unusedVariables false
namespace Go.Proofs.Ytgifjphinkbcaaa
open Go Go.Ev

/-! ### slices.Repeat -/
noncomputable def c78 : Code := match Try.f78.body with | some c => c | _ => .skip
noncomputable def lp78a : Code := loopAt c78 [true, true, true, true, true, true, false, false]
noncomputable def s78a (t7 : Nat) (t8 : Int) (m22 : List (List AV)) : St :=
  { t := [(4, .nl), (7, .sl 22 0 t7), (8, .i .i64 t8)], m := [(0, .dead), (1, .dead), (2, .dead), (3, .dead), (4, .dead), (5, .dead), (6, .dead), (7, .dead), (8, .dead), (9, .dead), (10, .dead), (11, .dead), (12, .dead), (13, .dead), (14, .dead), (15, .dead), (16, .dead), (17, .dead), (18, .dead), (19, .dead), (20, .dead), (21, .dead), (22, .row 3 m22)], nx := 23, nt := 48 }
structure S78a where
  t8 : Int
  m22 : List (List AV)
inductive T78a where
  | x0 (t8 : Int) (m22 : List (List AV))
noncomputable def stp78a (t7 : Nat) (t8 : Int) (m22 : List (List AV)) : Lp S78a T78a :=
  cond (decide (t8 < (↑t7 : Int))) (cond ((0 + t7).ble m22.length && (decide (0 ≤ t8) && (decide (t8 ≤ (↑t7 : Int)) && decide ((↑t7 : Int) ≤ (↑t7 : Int))))) (cond ((0 + t7).ble m22.length && (decide (0 ≤ t8) && decide (t8 ≤ (↑t7 : Int)))) (cond ((0 + (t8.toNat - 0)).ble m22.length) (cond ((0 + t8.toNat + ((↑t7 : Int).toNat - t8.toNat)).ble m22.length) (.go ⟨IntKind.i64.wrap (t8 + (↑(min ((↑t7 : Int).toNat - t8.toNat) (List.take (t8.toNat - 0) (List.drop 0 m22)).length) : Int)), over (0 + t8.toNat) ((↑t7 : Int).toNat - t8.toNat) (List.take (t8.toNat - 0) (List.drop 0 m22)) m22⟩) (.bad)) (.bad)) (.bad)) (.bad)) (.out (.x0 t8 m22))
noncomputable def o78a_0 (t7 : Nat) (t8 : Int) (m22 : List (List AV)) : St :=
  { t := [(4, .nl), (7, .sl 22 0 t7), (8, .i .i64 t8)], m := [(0, .dead), (1, .dead), (2, .dead), (3, .dead), (4, .dead), (5, .dead), (6, .dead), (7, .dead), (8, .dead), (9, .dead), (10, .dead), (11, .dead), (12, .dead), (13, .dead), (14, .dead), (15, .dead), (16, .dead), (17, .dead), (18, .dead), (19, .dead), (20, .dead), (21, .dead), (22, .row 3 m22)], nx := 23, nt := 48 }
noncomputable def ou78a (t7 : Nat) : T78a → Ex × St
  | .x0 t8 m22 => (.ext 0, o78a_0 t7 t8 m22)
noncomputable def r78a (t7 : Nat) (t8 : Int) (m22 : List (List AV)) : Option T78a := run (fun x => stp78a t7 x.t8 x.m22) (⟨t8, m22⟩ : S78a)
noncomputable def i78a_0 (t7 : Nat) (t8 : Int) (m22 : List (List AV)) : Bool := match r78a t7 t8 m22 with
  | some (.x0 _ _) => true
  | _ => false
noncomputable def v78a_0_t8 (t7 : Nat) (t8 : Int) (m22 : List (List AV)) : Int := match r78a t7 t8 m22 with
  | some (.x0 t8 _) => t8
  | _ => default
noncomputable def v78a_0_m22 (t7 : Nat) (t8 : Int) (m22 : List (List AV)) : List (List AV) := match r78a t7 t8 m22 with
  | some (.x0 _ m22) => m22
  | _ => default
noncomputable def l78a (st : St) : Option (List (Bool × Ex × St)) := match normW Try.prog [(4, none), (7, none), (8, none)] 23 st with
  | some ([.nl, .sl 22 0 t7, .i .i64 t8], [(0, .dead), (1, .dead), (2, .dead), (3, .dead), (4, .dead), (5, .dead), (6, .dead), (7, .dead), (8, .dead), (9, .dead), (10, .dead), (11, .dead), (12, .dead), (13, .dead), (14, .dead), (15, .dead), (16, .dead), (17, .dead), (18, .dead), (19, .dead), (20, .dead), (21, .dead), (22, .row 3 m22)], 23, 48) => some [(i78a_0 t7 t8 m22, .ext 0, o78a_0 t7 (v78a_0_t8 t7 t8 m22) (v78a_0_m22 t7 t8 m22))]
  | _ => none
noncomputable def L78 : LSpec := fun p st => match p with
  | [false, false, true, true, true, true, true, true] => l78a st
  | _ => none
theorem is78a_0 (t7 : Nat) (t8 : Int) (m22 : List (List AV)) (h : i78a_0 t7 t8 m22 = true) : r78a t7 t8 m22 = some (.x0 (v78a_0_t8 t7 t8 m22) (v78a_0_m22 t7 t8 m22)) := by
  unfold i78a_0 at h
  unfold v78a_0_t8 v78a_0_m22
  generalize r78a t7 t8 m22 = r at h ⊢
  rcases r with _ | y
  · cases h
  · cases y <;> first | rfl | cases h
theorem round78a (t7 : Nat) (t8 : Int) (m22 : List (List AV)) : round Try.prog SM2 (ro 78) L78 lp78a [false, false, true, true, true, true, true, true] [(4, none), (7, none), (8, none)] 23 (s78a t7 t8 m22) =
    cond (decide (t8 < (↑t7 : Int))) (cond ((0 + t7).ble m22.length && (decide (0 ≤ t8) && (decide (t8 ≤ (↑t7 : Int)) && decide ((↑t7 : Int) ≤ (↑t7 : Int))))) (cond ((0 + t7).ble m22.length && (decide (0 ≤ t8) && decide (t8 ≤ (↑t7 : Int)))) (cond ((0 + (t8.toNat - 0)).ble m22.length) (cond ((0 + t8.toNat + ((↑t7 : Int).toNat - t8.toNat)).ble m22.length) (some (.nrm, s78a t7 (IntKind.i64.wrap (t8 + (↑(min ((↑t7 : Int).toNat - t8.toNat) (List.take (t8.toNat - 0) (List.drop 0 m22)).length) : Int))) (over (0 + t8.toNat) ((↑t7 : Int).toNat - t8.toNat) (List.take (t8.toNat - 0) (List.drop 0 m22)) m22))) (none)) (none)) (none)) (none)) (some (.ext 0, o78a_0 t7 t8 m22)) := by kernel_rfl
theorem rnd78a (t7 : Nat) (x : S78a) : round Try.prog SM2 (ro 78) L78 lp78a [false, false, true, true, true, true, true, true] [(4, none), (7, none), (8, none)] 23 ((fun x => s78a t7 x.t8 x.m22) x) = toR (fun x => s78a t7 x.t8 x.m22) (ou78a t7) (stp78a t7 x.t8 x.m22) := by
  refine (round78a _ _ _ ).trans ?_
  unfold stp78a
  simp only [toR_cond]
  rfl
theorem lok78a {st : St} {outs : List (Bool × Ex × St)} {e : Ex} {s : St} (hl : l78a st = some outs) (hch : Chosen outs e s) :
    ∃ keep nb, 0 ≤ nb ∧ LB Try.prog SM2 (ro 78) L78 lp78a [false, false, true, true, true, true, true, true] keep nb st e s := by
  unfold l78a at hl
  split at hl
  · rename_i t7 t8 m22 hno
    cases hl
    have hno := normW_norm hno
    refine ⟨_, _, ?_, .enter hno ?_⟩
    · decide
    have main := fun y h => LB_run (x := (⟨t8, m22⟩ : S78a)) (y := y) (nb := 23) (fun y => by cases y <;> simp [ou78a]) (rnd78a t7) h
    obtain ⟨x, hx, hg, rfl, rfl⟩ := chosen_any hch
    simp only [List.mem_cons, List.not_mem_nil, or_false] at hx
    subst hx
    exact main _ (is78a_0 t7 t8 m22 hg)
  · cases hl
theorem L78_ok (q : Pl) (c : Code) (hq : locate c78 q.reverse = some (.loop c)) (st : St) (outs : List (Bool × Ex × St)) (e : Ex) (s : St) (hl : L78 q st = some outs) (hch : Chosen outs e s) :
    ∃ keep nb, 0 ≤ nb ∧ LB Try.prog SM2 (ro 78) L78 c q keep nb st e s := by
  unfold L78 at hl
  split at hl
  · have : locate c78 ([false, false, true, true, true, true, true, true] : Pl).reverse = some (.loop lp78a) := by kernel_rfl
    rw [this] at hq
    cases hq
    exact lok78a hl hch
  · cases hl
theorem lok78 : LOK Try.prog SM2 (ro 78) L78 0 false c78 [] :=
  lok_lo L78_ok c78 [] false (locate_nil _) (by kernel_rfl)
noncomputable def t78 (x n : Int) : Tr ((List (List AV))) :=
  .cn (decide (n < 0)) (.nn) (.cn (decide (w90_0 (IntKind.u64.wrap (↑[[AV.i IntKind.i64 x]].length : Int)) (IntKind.u64.wrap n) > 0)) (.nn) (.cn (decide (w90_1 (IntKind.u64.wrap (↑[[AV.i IntKind.i64 x]].length : Int)) (IntKind.u64.wrap n) > 9223372036854775807)) (.nn) (.cn (decide (IntKind.i64.wrap (w90_1 (IntKind.u64.wrap (↑[[AV.i IntKind.i64 x]].length : Int)) (IntKind.u64.wrap n)) = IntKind.i64.wrap (w90_1 (IntKind.u64.wrap (↑[[AV.i IntKind.i64 x]].length : Int)) (IntKind.u64.wrap n))) && (decide (0 ≤ IntKind.i64.wrap (w90_1 (IntKind.u64.wrap (↑[[AV.i IntKind.i64 x]].length : Int)) (IntKind.u64.wrap n))) && decide (IntKind.i64.wrap (w90_1 (IntKind.u64.wrap (↑[[AV.i IntKind.i64 x]].length : Int)) (IntKind.u64.wrap n)) * (↑8 : Int) ≤ 140737488355328) && decide (IntKind.i64.wrap (w90_1 (IntKind.u64.wrap (↑[[AV.i IntKind.i64 x]].length : Int)) (IntKind.u64.wrap n)) ≤ 9223372036854775807))) (.cn ((0 + (IntKind.i64.wrap (w90_1 (IntKind.u64.wrap (↑[[AV.i IntKind.i64 x]].length : Int)) (IntKind.u64.wrap n))).toNat).ble (List.replicate (IntKind.i64.wrap (w90_1 (IntKind.u64.wrap (↑[[AV.i IntKind.i64 x]].length : Int)) (IntKind.u64.wrap n))).toNat [AV.i IntKind.i64 0]).length) (.cn (i78a_0 (IntKind.i64.wrap (w90_1 (IntKind.u64.wrap (↑[[AV.i IntKind.i64 x]].length : Int)) (IntKind.u64.wrap n))).toNat (↑(min (IntKind.i64.wrap (w90_1 (IntKind.u64.wrap (↑[[AV.i IntKind.i64 x]].length : Int)) (IntKind.u64.wrap n))).toNat [[AV.i IntKind.i64 x]].length) : Int) (over 0 (IntKind.i64.wrap (w90_1 (IntKind.u64.wrap (↑[[AV.i IntKind.i64 x]].length : Int)) (IntKind.u64.wrap n))).toNat [[AV.i IntKind.i64 x]] (List.replicate (IntKind.i64.wrap (w90_1 (IntKind.u64.wrap (↑[[AV.i IntKind.i64 x]].length : Int)) (IntKind.u64.wrap n))).toNat [AV.i IntKind.i64 0]))) (.cn ((0 + (IntKind.i64.wrap (w90_1 (IntKind.u64.wrap (↑[[AV.i IntKind.i64 x]].length : Int)) (IntKind.u64.wrap n))).toNat).ble (v78a_0_m22 (IntKind.i64.wrap (w90_1 (IntKind.u64.wrap (↑[[AV.i IntKind.i64 x]].length : Int)) (IntKind.u64.wrap n))).toNat (↑(min (IntKind.i64.wrap (w90_1 (IntKind.u64.wrap (↑[[AV.i IntKind.i64 x]].length : Int)) (IntKind.u64.wrap n))).toNat [[AV.i IntKind.i64 x]].length) : Int) (over 0 (IntKind.i64.wrap (w90_1 (IntKind.u64.wrap (↑[[AV.i IntKind.i64 x]].length : Int)) (IntKind.u64.wrap n))).toNat [[AV.i IntKind.i64 x]] (List.replicate (IntKind.i64.wrap (w90_1 (IntKind.u64.wrap (↑[[AV.i IntKind.i64 x]].length : Int)) (IntKind.u64.wrap n))).toNat [AV.i IntKind.i64 0]))).length) (.lf (bif (IntKind.i64.wrap (w90_1 (IntKind.u64.wrap (↑[[AV.i IntKind.i64 x]].length : Int)) (IntKind.u64.wrap n))).toNat.beq (v78a_0_m22 (IntKind.i64.wrap (w90_1 (IntKind.u64.wrap (↑[[AV.i IntKind.i64 x]].length : Int)) (IntKind.u64.wrap n))).toNat (↑(min (IntKind.i64.wrap (w90_1 (IntKind.u64.wrap (↑[[AV.i IntKind.i64 x]].length : Int)) (IntKind.u64.wrap n))).toNat [[AV.i IntKind.i64 x]].length) : Int) (over 0 (IntKind.i64.wrap (w90_1 (IntKind.u64.wrap (↑[[AV.i IntKind.i64 x]].length : Int)) (IntKind.u64.wrap n))).toNat [[AV.i IntKind.i64 x]] (List.replicate (IntKind.i64.wrap (w90_1 (IntKind.u64.wrap (↑[[AV.i IntKind.i64 x]].length : Int)) (IntKind.u64.wrap n))).toNat [AV.i IntKind.i64 0]))).length then v78a_0_m22 (IntKind.i64.wrap (w90_1 (IntKind.u64.wrap (↑[[AV.i IntKind.i64 x]].length : Int)) (IntKind.u64.wrap n))).toNat (↑(min (IntKind.i64.wrap (w90_1 (IntKind.u64.wrap (↑[[AV.i IntKind.i64 x]].length : Int)) (IntKind.u64.wrap n))).toNat [[AV.i IntKind.i64 x]].length) : Int) (over 0 (IntKind.i64.wrap (w90_1 (IntKind.u64.wrap (↑[[AV.i IntKind.i64 x]].length : Int)) (IntKind.u64.wrap n))).toNat [[AV.i IntKind.i64 x]] (List.replicate (IntKind.i64.wrap (w90_1 (IntKind.u64.wrap (↑[[AV.i IntKind.i64 x]].length : Int)) (IntKind.u64.wrap n))).toNat [AV.i IntKind.i64 0])) else List.take (IntKind.i64.wrap (w90_1 (IntKind.u64.wrap (↑[[AV.i IntKind.i64 x]].length : Int)) (IntKind.u64.wrap n))).toNat (List.drop 0 (v78a_0_m22 (IntKind.i64.wrap (w90_1 (IntKind.u64.wrap (↑[[AV.i IntKind.i64 x]].length : Int)) (IntKind.u64.wrap n))).toNat (↑(min (IntKind.i64.wrap (w90_1 (IntKind.u64.wrap (↑[[AV.i IntKind.i64 x]].length : Int)) (IntKind.u64.wrap n))).toNat [[AV.i IntKind.i64 x]].length) : Int) (over 0 (IntKind.i64.wrap (w90_1 (IntKind.u64.wrap (↑[[AV.i IntKind.i64 x]].length : Int)) (IntKind.u64.wrap n))).toNat [[AV.i IntKind.i64 x]] (List.replicate (IntKind.i64.wrap (w90_1 (IntKind.u64.wrap (↑[[AV.i IntKind.i64 x]].length : Int)) (IntKind.u64.wrap n))).toNat [AV.i IntKind.i64 0])))))) (.nn)) (.nn)) (.nn)) (.nn))))
noncomputable def g78 (x n : Int) : Bool := (t78 x n).g
noncomputable def w78_0 (x n : Int) : List (List AV) := (t78 x n).val
theorem eq78 (x n : Int) : evF Try.prog SM2 (ro 78) L78 Try.f78 [.rs 3 [[.i .i64 x]], .i .i64 n] = (t78 x n).opt (fun (x : (List (List AV))) => (.rs 3 x : AV)) := by kernel_rfl
theorem con78 (x n : Int) (h : g78 x n = true) : Con Try.prog 78 [.rs 3 [[.i .i64 x]], .i .i64 n] [] (.rs 3 (w78_0 x n)) [] :=
  con_of SM2_ok mixed Try.func78 (c := c78) rfl (names 78 _ Try.func78) lok78 ((eq78 x n).trans (Tr.sound _ _ h))
noncomputable def e78 (args : List AV) (rows : List Blk) : Option (Bool × AV × List Blk) := match args, rows with
  | [.rs 3 [[.i .i64 x]], .i .i64 n], [] => some (g78 x n, .rs 3 (w78_0 x n), [])
  | _, _ => none
theorem e78_ok (args : List AV) (rows : List Blk) (pre : Bool) (v : AV) (rows' : List Blk) (h : e78 args rows = some (pre, v, rows')) (hp : pre = true) : Con Try.prog 78 args rows v rows' := by
  unfold e78 at h
  split at h
  · cases h; exact con78 _ _ hp
  · cases h
-- SPEC 78
end Go.Proofs.Ytgifjphinkbcaaa

set_option maxRecDepth 100000
set_option linter.unusedVariables false
namespace Go.Proofs.Ytgifjphinkbcaaa
open Go Go.Ev
/-! ### Repeat -/
theorem w90_c : ∀ n, n < 13 → w90_0 (IntKind.u64.wrap 1) (IntKind.u64.wrap (n : Nat)) = 0 ∧ w90_1 (IntKind.u64.wrap 1) (IntKind.u64.wrap (n : Nat)) = (n : Int) ∧ IntKind.i64.wrap (n : Int) = (n : Int) := by
  decide
theorem over_rep (a b : List AV) {n s : Nat} (h : s ≤ n) : over s (n - s) (List.replicate s a) (List.replicate s a ++ List.replicate (n - s) b) = List.replicate (s + min (n - s) s) a ++ List.replicate (n - (s + min (n - s) s)) b := by
  unfold over
  rw [List.length_replicate, List.take_replicate, List.take_left' (by simp), List.drop_append, List.drop_replicate, List.drop_replicate, List.length_replicate]
  have e1 : s - (s + min (n - s) s) = 0 := by omega
  have e2 : n - s - (s + min (n - s) s - s) = n - (s + min (n - s) s) := by omega
  rw [e1, e2, List.replicate_zero, List.nil_append, ← List.append_assoc, List.replicate_append_replicate]
theorem rep_run (x : Int) : ∀ n, n < 13 → r78a n (min n 1 : Nat) (over 0 n [[AV.i IntKind.i64 x]] (List.replicate n [AV.i IntKind.i64 0])) = some (.x0 (n : Int) (List.replicate n [.i .i64 x])) := by
  intro n hn
  have e0 : over 0 n [[AV.i IntKind.i64 x]] (List.replicate n [AV.i IntKind.i64 0]) = List.replicate (min n 1) [AV.i .i64 x] ++ List.replicate (n - min n 1) [AV.i .i64 0] := by
    unfold over
    cases n with
    | zero => rfl
    | succ n =>
      have : min (n + 1) 1 = 1 := by omega
      rw [this]
      simp [List.drop_replicate, List.replicate_succ]
  rw [e0]
  have run := run_while (S := Nat) (step := fun z : S78a => stp78a n z.t8 z.m22) (fun s => n - s) (fun s => (⟨(s : Int), List.replicate s [AV.i .i64 x] ++ List.replicate (n - s) [AV.i .i64 0]⟩ : S78a)) (fun s => s ≤ n ∧ (0 < s ∨ n = 0)) (fun _ y => y = .x0 (n : Int) (List.replicate n [.i .i64 x]))
    (fun s hs => by
      obtain ⟨h1, h2⟩ := hs
      rcases Nat.eq_or_lt_of_le h1 with rfl | h
      · right
        refine ⟨_, ?_, rfl⟩
        unfold stp78a
        dsimp only
        rw [lt_false, Nat.sub_self, List.replicate_zero, List.append_nil]
        rfl
      · left
        refine ⟨s + min (n - s) s, ?_, ⟨by omega, by omega⟩, by omega, fun y hy => hy⟩
        have hl : (List.replicate s [AV.i .i64 x] ++ List.replicate (n - s) [AV.i .i64 0]).length = n := by simp; omega
        have b1 : (0 + n).ble n = true := by rw [Nat.zero_add, Nat.ble_eq]; exact Nat.le_refl _
        have b2 : (0 + (s - 0)).ble n = true := by rw [Nat.ble_eq]; omega
        have b3 : (0 + s + (n - s)).ble n = true := by rw [Nat.ble_eq]; omega
        have c1 : decide (0 ≤ (s : Int)) = true := decide_eq_true (by omega)
        have c2 : decide ((s : Int) ≤ (n : Int)) = true := decide_eq_true (by omega)
        have c3 : decide ((n : Int) ≤ (n : Int)) = true := decide_eq_true (by omega)
        have t1 : List.take (s - 0) (List.drop 0 (List.replicate s [AV.i .i64 x] ++ List.replicate (n - s) [AV.i .i64 0])) = List.replicate s [AV.i .i64 x] := by
          rw [List.drop_zero, Nat.sub_zero, List.take_left' (by simp)]
        unfold stp78a
        dsimp only
        rw [hl, lt_true h, b1, c1, c2, c3, Int.toNat_natCast, Int.toNat_natCast, b2, b3, t1, Nat.zero_add, over_rep _ _ (by omega), List.length_replicate, wrap64 (by omega) (by omega), Int.natCast_add]
        rfl)
    (min n 1) ⟨by omega, by omega⟩
  obtain ⟨y, h1, h2⟩ := run
  rw [← h2]
  exact h1
theorem rep_val (x : Int) {n : Nat} (hn : n < 13) : g78 x (n : Int) = true ∧ w78_0 x (n : Int) = List.replicate n [.i .i64 x] := by
  obtain ⟨a, b, c⟩ := w90_c n hn
  have hr := rep_run x n hn
  unfold g78 w78_0 t78
  have e1 : ((([[AV.i IntKind.i64 x]] : List (List AV)).length : Nat) : Int) = 1 := rfl
  rw [e1, a, b, c, Int.toNat_natCast]
  have d0 : decide ((n : Int) < 0) = false := decide_eq_false (by omega)
  have d1 : decide ((n : Int) > 9223372036854775807) = false := decide_eq_false (by omega)
  have d2 : (decide ((n : Int) = (n : Int)) && (decide (0 ≤ (n : Int)) && decide ((n : Int) * (8 : Int) ≤ 140737488355328) && decide ((n : Int) ≤ 9223372036854775807))) = true := by
    simp only [Bool.and_eq_true, decide_eq_true_eq]
    exact ⟨trivial, ⟨by omega, by omega⟩, by omega⟩
  rw [d0, d1, d2]
  have hr : r78a n ((min n ([[AV.i IntKind.i64 x]] : List (List AV)).length : Nat) : Int) (over 0 n [[AV.i IntKind.i64 x]] (List.replicate n [AV.i IntKind.i64 0])) = _ := hr
  unfold i78a_0 v78a_0_m22
  rw [hr]
  have b1 : n.ble n = true := by simp [Nat.ble_eq]
  simp [b1, Tr.g, Tr.val]
end Go.Proofs.Ytgifjphinkbcaaa

set_option maxRecDepth 100000
set_option linter.unusedVariables false
namespace Go.Proofs.Ytgifjphinkbcaaa
open Go Go.Ev
noncomputable def SPm [LQ] : Ev.Spec := insS 76 eLQ (insS 78 e78 (insS 24 e24 (insS 77 e77 S0)))
theorem SPm_ok [LQ] : SpecOK Try.prog SPm := insS_ok eLQ_ok (insS_ok e78_ok (insS_ok e24_ok (insS_ok e77_ok S0_ok)))
end Go.Proofs.Ytgifjphinkbcaaa

set_option maxRecDepth 100000
set_option maxHeartbeats 0
set_option linter.unusedVariables false
namespace Go.Proofs.Ytgifjphinkbcaaa
open Go Go.Ev

/-! ### Plan -/
noncomputable def c45 : Code := match Try.f45.body with | some c => c | _ => .skip
noncomputable def lp45a : Code := loopAt c45 [true, true, true, true, true, true, false, true, false]
noncomputable def s45a (t3 : Int) (t7 : List (List AV)) (m14_0 : Int) (m14_1 : Int) (m14_2 : Int) (m14_3 : Int) (m14_4 : Int) (m14_5 : Int) (m14_6 : Int) (m14_7 : Int) (m8 : List (AV × AV)) (da : Int) (db : Int) (cs : List (List AV)) : St :=
  { t := [(2, .nl), (3, .i .i64 t3), (5, .p 10 0 0), (6, .p 12 0 0), (7, .gv 13 36 t7), (8, .p 14 0 0)], m := [(13, .fr 36), (14, .row 104 [[.i .i64 m14_0, .i .i64 m14_1, .i .i64 m14_2, .i .i64 m14_3, .i .i64 m14_4, .i .i64 m14_5, .i .i64 m14_6, .i .i64 m14_7]]), (0, .dead), (1, .dead), (2, .dead), (3, .dead), (4, .dead), (5, .dead), (6, .dead), (7, .dead), (8, .mp 104 106 m8), (9, .dead), (10, .row 101 [[.mp 8]]), (11, .dead), (12, .row 102 [[.fn 72 [.rp [.int .i64, .int .i64, .sl 64] [.i .i64 da, .i .i64 db, .rs 64 cs] 0, .p 10 0 0, .p 12 0 0]]])], nx := 15, nt := 54 }
noncomputable def lp45aa : Code := loopAt c45 [true, true, true, true, true, true, false, true, false, false, true, false, false, true, true, false, true, false]
noncomputable def s45aa (t3 : Int) (t7 : List (List AV)) (t10 : List (List AV)) (t30_0 : Int) (t30_1 : Int) (t30_2 : Int) (t30_3 : Int) (t30_4 : Int) (t30_5 : Int) (t30_6 : Int) (t30_7 : Int) (t31 : Int) (m8 : List (AV × AV)) (da : Int) (db : Int) (cs : List (List AV)) (m14 : List AV) : St :=
  { t := [(2, .nl), (3, .i .i64 t3), (5, .p 10 0 0), (6, .p 12 0 0), (7, .gv 15 36 t7), (8, .p 14 0 0), (10, .gv 16 3 t10), (30, .agg [.i .i64 t30_0, .i .i64 t30_1, .i .i64 t30_2, .i .i64 t30_3, .i .i64 t30_4, .i .i64 t30_5, .i .i64 t30_6, .i .i64 t30_7]), (31, .i .i64 t31)], m := [(15, .fr 36), (16, .fr 3), (0, .dead), (1, .dead), (2, .dead), (3, .dead), (4, .dead), (5, .dead), (6, .dead), (7, .dead), (8, .mp 104 106 m8), (9, .dead), (10, .row 101 [[.mp 8]]), (11, .dead), (12, .row 102 [[.fn 72 [.rp [.int .i64, .int .i64, .sl 64] [.i .i64 da, .i .i64 db, .rs 64 cs] 0, .p 10 0 0, .p 12 0 0]]]), (13, .dead), (14, .row 104 [m14])], nx := 17, nt := 54 }
structure S45aa where
  t10 : List (List AV)
  t31 : Int
  m14 : List AV
inductive T45aa where
  | x0 (t10 : List (List AV)) (t31 : Int) (m14 : List AV)
noncomputable def stp45aa (t3 : Int) (t7 : List (List AV)) (t30_0 : Int) (t30_1 : Int) (t30_2 : Int) (t30_3 : Int) (t30_4 : Int) (t30_5 : Int) (t30_6 : Int) (t30_7 : Int) (m8 : List (AV × AV)) (da : Int) (db : Int) (cs : List (List AV)) (t10 : List (List AV)) (t31 : Int) (m14 : List AV) : Lp S45aa T45aa :=
  cond (decide (t31 < 8)) (cond (intsOf IntKind.i64 [AV.i IntKind.i64 t30_0, AV.i IntKind.i64 t30_1, AV.i IntKind.i64 t30_2, AV.i IntKind.i64 t30_3, AV.i IntKind.i64 t30_4, AV.i IntKind.i64 t30_5, AV.i IntKind.i64 t30_6, AV.i IntKind.i64 t30_7] && (inb t31 8 && inb t31 [AV.i IntKind.i64 t30_0, AV.i IntKind.i64 t30_1, AV.i IntKind.i64 t30_2, AV.i IntKind.i64 t30_3, AV.i IntKind.i64 t30_4, AV.i IntKind.i64 t30_5, AV.i IntKind.i64 t30_6, AV.i IntKind.i64 t30_7].length)) (cond (g78 t31 (toI ([AV.i IntKind.i64 t30_0, AV.i IntKind.i64 t30_1, AV.i IntKind.i64 t30_2, AV.i IntKind.i64 t30_3, AV.i IntKind.i64 t30_4, AV.i IntKind.i64 t30_5, AV.i IntKind.i64 t30_6, AV.i IntKind.i64 t30_7].getD t31.toNat AV.u))) (cond ((t10.length + (w78_0 t31 (toI ([AV.i IntKind.i64 t30_0, AV.i IntKind.i64 t30_1, AV.i IntKind.i64 t30_2, AV.i IntKind.i64 t30_3, AV.i IntKind.i64 t30_4, AV.i IntKind.i64 t30_5, AV.i IntKind.i64 t30_6, AV.i IntKind.i64 t30_7].getD t31.toNat AV.u))).length).ble 9223372036854775807 && true) (cond (((t10.length + (w78_0 t31 (toI ([AV.i IntKind.i64 t30_0, AV.i IntKind.i64 t30_1, AV.i IntKind.i64 t30_2, AV.i IntKind.i64 t30_3, AV.i IntKind.i64 t30_4, AV.i IntKind.i64 t30_5, AV.i IntKind.i64 t30_6, AV.i IntKind.i64 t30_7].getD t31.toNat AV.u))).length) * 8).ble 140737488355328) (cond (inb t31 8) (cond (ctsAt (cts Try.prog 104) (0 + t31.toNat * 1) (cts Try.prog 3) && true) (cond (inb t31 8) (cond (ctsAt (cts Try.prog 104) (0 + t31.toNat * 1) (cts Try.prog 3) && true) (.go ⟨t10 ++ w78_0 t31 (toI ([AV.i IntKind.i64 t30_0, AV.i IntKind.i64 t30_1, AV.i IntKind.i64 t30_2, AV.i IntKind.i64 t30_3, AV.i IntKind.i64 t30_4, AV.i IntKind.i64 t30_5, AV.i IntKind.i64 t30_6, AV.i IntKind.i64 t30_7].getD t31.toNat AV.u)), IntKind.i64.wrap (t31 + 1), setCs ([m14].getD 0 []) (0 + t31.toNat * 1) [AV.i IntKind.i64 (IntKind.i64.wrap (toI (([m14].getD 0 []).getD (0 + t31.toNat * 1) AV.u) - toI ([AV.i IntKind.i64 t30_0, AV.i IntKind.i64 t30_1, AV.i IntKind.i64 t30_2, AV.i IntKind.i64 t30_3, AV.i IntKind.i64 t30_4, AV.i IntKind.i64 t30_5, AV.i IntKind.i64 t30_6, AV.i IntKind.i64 t30_7].getD t31.toNat AV.u)))]⟩) (.bad)) (.bad)) (.bad)) (.bad)) (.bad)) (.bad)) (.bad)) (.bad)) (.out (.x0 t10 t31 m14))
noncomputable def o45aa_0 (t3 : Int) (t7 : List (List AV)) (t30_0 : Int) (t30_1 : Int) (t30_2 : Int) (t30_3 : Int) (t30_4 : Int) (t30_5 : Int) (t30_6 : Int) (t30_7 : Int) (m8 : List (AV × AV)) (da : Int) (db : Int) (cs : List (List AV)) (t10 : List (List AV)) (t31 : Int) (m14 : List AV) : St :=
  { t := [(2, .nl), (3, .i .i64 t3), (5, .p 10 0 0), (6, .p 12 0 0), (7, .gv 15 36 t7), (8, .p 14 0 0), (10, .gv 16 3 t10), (30, .agg [.i .i64 t30_0, .i .i64 t30_1, .i .i64 t30_2, .i .i64 t30_3, .i .i64 t30_4, .i .i64 t30_5, .i .i64 t30_6, .i .i64 t30_7]), (31, .i .i64 t31)], m := [(15, .fr 36), (16, .fr 3), (0, .dead), (1, .dead), (2, .dead), (3, .dead), (4, .dead), (5, .dead), (6, .dead), (7, .dead), (8, .mp 104 106 m8), (9, .dead), (10, .row 101 [[.mp 8]]), (11, .dead), (12, .row 102 [[.fn 72 [.rp [.int .i64, .int .i64, .sl 64] [.i .i64 da, .i .i64 db, .rs 64 cs] 0, .p 10 0 0, .p 12 0 0]]]), (13, .dead), (14, .row 104 [m14])], nx := 17, nt := 54 }
noncomputable def ou45aa (t3 : Int) (t7 : List (List AV)) (t30_0 : Int) (t30_1 : Int) (t30_2 : Int) (t30_3 : Int) (t30_4 : Int) (t30_5 : Int) (t30_6 : Int) (t30_7 : Int) (m8 : List (AV × AV)) (da : Int) (db : Int) (cs : List (List AV)) : T45aa → Ex × St
  | .x0 t10 t31 m14 => (.ext 2, o45aa_0 t3 t7 t30_0 t30_1 t30_2 t30_3 t30_4 t30_5 t30_6 t30_7 m8 da db cs t10 t31 m14)
noncomputable def r45aa (t3 : Int) (t7 : List (List AV)) (t30_0 : Int) (t30_1 : Int) (t30_2 : Int) (t30_3 : Int) (t30_4 : Int) (t30_5 : Int) (t30_6 : Int) (t30_7 : Int) (m8 : List (AV × AV)) (da : Int) (db : Int) (cs : List (List AV)) (t10 : List (List AV)) (t31 : Int) (m14 : List AV) : Option T45aa := run (fun x => stp45aa t3 t7 t30_0 t30_1 t30_2 t30_3 t30_4 t30_5 t30_6 t30_7 m8 da db cs x.t10 x.t31 x.m14) (⟨t10, t31, m14⟩ : S45aa)
noncomputable def i45aa_0 (t3 : Int) (t7 : List (List AV)) (t30_0 : Int) (t30_1 : Int) (t30_2 : Int) (t30_3 : Int) (t30_4 : Int) (t30_5 : Int) (t30_6 : Int) (t30_7 : Int) (m8 : List (AV × AV)) (da : Int) (db : Int) (cs : List (List AV)) (t10 : List (List AV)) (t31 : Int) (m14 : List AV) : Bool := match r45aa t3 t7 t30_0 t30_1 t30_2 t30_3 t30_4 t30_5 t30_6 t30_7 m8 da db cs t10 t31 m14 with
  | some (.x0 _ _ _) => true
  | _ => false
noncomputable def v45aa_0_t10 (t3 : Int) (t7 : List (List AV)) (t30_0 : Int) (t30_1 : Int) (t30_2 : Int) (t30_3 : Int) (t30_4 : Int) (t30_5 : Int) (t30_6 : Int) (t30_7 : Int) (m8 : List (AV × AV)) (da : Int) (db : Int) (cs : List (List AV)) (t10 : List (List AV)) (t31 : Int) (m14 : List AV) : List (List AV) := match r45aa t3 t7 t30_0 t30_1 t30_2 t30_3 t30_4 t30_5 t30_6 t30_7 m8 da db cs t10 t31 m14 with
  | some (.x0 t10 _ _) => t10
  | _ => default
noncomputable def v45aa_0_t31 (t3 : Int) (t7 : List (List AV)) (t30_0 : Int) (t30_1 : Int) (t30_2 : Int) (t30_3 : Int) (t30_4 : Int) (t30_5 : Int) (t30_6 : Int) (t30_7 : Int) (m8 : List (AV × AV)) (da : Int) (db : Int) (cs : List (List AV)) (t10 : List (List AV)) (t31 : Int) (m14 : List AV) : Int := match r45aa t3 t7 t30_0 t30_1 t30_2 t30_3 t30_4 t30_5 t30_6 t30_7 m8 da db cs t10 t31 m14 with
  | some (.x0 _ t31 _) => t31
  | _ => default
noncomputable def v45aa_0_m14 (t3 : Int) (t7 : List (List AV)) (t30_0 : Int) (t30_1 : Int) (t30_2 : Int) (t30_3 : Int) (t30_4 : Int) (t30_5 : Int) (t30_6 : Int) (t30_7 : Int) (m8 : List (AV × AV)) (da : Int) (db : Int) (cs : List (List AV)) (t10 : List (List AV)) (t31 : Int) (m14 : List AV) : List AV := match r45aa t3 t7 t30_0 t30_1 t30_2 t30_3 t30_4 t30_5 t30_6 t30_7 m8 da db cs t10 t31 m14 with
  | some (.x0 _ _ m14) => m14
  | _ => default
theorem is45aa_0 (t3 : Int) (t7 : List (List AV)) (t30_0 : Int) (t30_1 : Int) (t30_2 : Int) (t30_3 : Int) (t30_4 : Int) (t30_5 : Int) (t30_6 : Int) (t30_7 : Int) (m8 : List (AV × AV)) (da : Int) (db : Int) (cs : List (List AV)) (t10 : List (List AV)) (t31 : Int) (m14 : List AV) (h : i45aa_0 t3 t7 t30_0 t30_1 t30_2 t30_3 t30_4 t30_5 t30_6 t30_7 m8 da db cs t10 t31 m14 = true) : r45aa t3 t7 t30_0 t30_1 t30_2 t30_3 t30_4 t30_5 t30_6 t30_7 m8 da db cs t10 t31 m14 = some (.x0 (v45aa_0_t10 t3 t7 t30_0 t30_1 t30_2 t30_3 t30_4 t30_5 t30_6 t30_7 m8 da db cs t10 t31 m14) (v45aa_0_t31 t3 t7 t30_0 t30_1 t30_2 t30_3 t30_4 t30_5 t30_6 t30_7 m8 da db cs t10 t31 m14) (v45aa_0_m14 t3 t7 t30_0 t30_1 t30_2 t30_3 t30_4 t30_5 t30_6 t30_7 m8 da db cs t10 t31 m14)) := by
  unfold i45aa_0 at h
  unfold v45aa_0_t10 v45aa_0_t31 v45aa_0_m14
  generalize r45aa t3 t7 t30_0 t30_1 t30_2 t30_3 t30_4 t30_5 t30_6 t30_7 m8 da db cs t10 t31 m14 = r at h ⊢
  rcases r with _ | y
  · cases h
  · cases y <;> first | rfl | cases h
variable [LQ]
noncomputable def l45aa (st : St) : Option (List (Bool × Ex × St)) := match normW Try.prog [(2, none), (3, none), (5, none), (6, none), (7, some 36), (8, none), (10, some 3), (30, none), (31, none)] 15 st with
  | some ([.nl, .i .i64 t3, .p 10 0 0, .p 12 0 0, .gv 15 36 t7, .p 14 0 0, .gv 16 3 t10, .agg [.i .i64 t30_0, .i .i64 t30_1, .i .i64 t30_2, .i .i64 t30_3, .i .i64 t30_4, .i .i64 t30_5, .i .i64 t30_6, .i .i64 t30_7], .i .i64 t31], [(15, .fr 36), (16, .fr 3), (0, .dead), (1, .dead), (2, .dead), (3, .dead), (4, .dead), (5, .dead), (6, .dead), (7, .dead), (8, .mp 104 106 m8), (9, .dead), (10, .row 101 [[.mp 8]]), (11, .dead), (12, .row 102 [[.fn 72 [.rp [.int .i64, .int .i64, .sl 64] [.i .i64 da, .i .i64 db, .rs 64 cs] 0, .p 10 0 0, .p 12 0 0]]]), (13, .dead), (14, .row 104 [m14])], 17, 54) => some [(i45aa_0 t3 t7 t30_0 t30_1 t30_2 t30_3 t30_4 t30_5 t30_6 t30_7 m8 da db cs t10 t31 m14, .ext 2, o45aa_0 t3 t7 t30_0 t30_1 t30_2 t30_3 t30_4 t30_5 t30_6 t30_7 m8 da db cs (v45aa_0_t10 t3 t7 t30_0 t30_1 t30_2 t30_3 t30_4 t30_5 t30_6 t30_7 m8 da db cs t10 t31 m14) (v45aa_0_t31 t3 t7 t30_0 t30_1 t30_2 t30_3 t30_4 t30_5 t30_6 t30_7 m8 da db cs t10 t31 m14) (v45aa_0_m14 t3 t7 t30_0 t30_1 t30_2 t30_3 t30_4 t30_5 t30_6 t30_7 m8 da db cs t10 t31 m14))]
  | _ => none
structure S45a where
  t7 : List (List AV)
  m14_0 : Int
  m14_1 : Int
  m14_2 : Int
  m14_3 : Int
  m14_4 : Int
  m14_5 : Int
  m14_6 : Int
  m14_7 : Int
  m8 : List (AV × AV)
inductive T45a where
  | x0 (t7 : List (List AV)) (m14_0 : Int) (m14_1 : Int) (m14_2 : Int) (m14_3 : Int) (m14_4 : Int) (m14_5 : Int) (m14_6 : Int) (m14_7 : Int) (m8 : List (AV × AV))
noncomputable def stp45a (t3 : Int) (da : Int) (db : Int) (cs : List (List AV)) (t7 : List (List AV)) (m14_0 : Int) (m14_1 : Int) (m14_2 : Int) (m14_3 : Int) (m14_4 : Int) (m14_5 : Int) (m14_6 : Int) (m14_7 : Int) (m8 : List (AV × AV)) : Lp S45a T45a :=
  cond (!(m14_0 == 0 && (m14_1 == 0 && (m14_2 == 0 && (m14_3 == 0 && (m14_4 == 0 && (m14_5 == 0 && (m14_6 == 0 && m14_7 == 0)))))))) (cond (LQ.G da db cs da db cs m14_0 m14_1 m14_2 m14_3 m14_4 m14_5 m14_6 m14_7 m8 && true) (cond (i45aa_0 t3 t7 ((LQ.F da db cs da db cs m14_0 m14_1 m14_2 m14_3 m14_4 m14_5 m14_6 m14_7 m8).fst 0) ((LQ.F da db cs da db cs m14_0 m14_1 m14_2 m14_3 m14_4 m14_5 m14_6 m14_7 m8).fst 1) ((LQ.F da db cs da db cs m14_0 m14_1 m14_2 m14_3 m14_4 m14_5 m14_6 m14_7 m8).fst 2) ((LQ.F da db cs da db cs m14_0 m14_1 m14_2 m14_3 m14_4 m14_5 m14_6 m14_7 m8).fst 3) ((LQ.F da db cs da db cs m14_0 m14_1 m14_2 m14_3 m14_4 m14_5 m14_6 m14_7 m8).fst 4) ((LQ.F da db cs da db cs m14_0 m14_1 m14_2 m14_3 m14_4 m14_5 m14_6 m14_7 m8).fst 5) ((LQ.F da db cs da db cs m14_0 m14_1 m14_2 m14_3 m14_4 m14_5 m14_6 m14_7 m8).fst 6) ((LQ.F da db cs da db cs m14_0 m14_1 m14_2 m14_3 m14_4 m14_5 m14_6 m14_7 m8).fst 7) (LQ.F da db cs da db cs m14_0 m14_1 m14_2 m14_3 m14_4 m14_5 m14_6 m14_7 m8).snd da db cs [] 0 [AV.i IntKind.i64 m14_0, AV.i IntKind.i64 m14_1, AV.i IntKind.i64 m14_2, AV.i IntKind.i64 m14_3, AV.i IntKind.i64 m14_4, AV.i IntKind.i64 m14_5, AV.i IntKind.i64 m14_6, AV.i IntKind.i64 m14_7]) (cond ((t7.length + [[AV.rs 3 (v45aa_0_t10 t3 t7 ((LQ.F da db cs da db cs m14_0 m14_1 m14_2 m14_3 m14_4 m14_5 m14_6 m14_7 m8).fst 0) ((LQ.F da db cs da db cs m14_0 m14_1 m14_2 m14_3 m14_4 m14_5 m14_6 m14_7 m8).fst 1) ((LQ.F da db cs da db cs m14_0 m14_1 m14_2 m14_3 m14_4 m14_5 m14_6 m14_7 m8).fst 2) ((LQ.F da db cs da db cs m14_0 m14_1 m14_2 m14_3 m14_4 m14_5 m14_6 m14_7 m8).fst 3) ((LQ.F da db cs da db cs m14_0 m14_1 m14_2 m14_3 m14_4 m14_5 m14_6 m14_7 m8).fst 4) ((LQ.F da db cs da db cs m14_0 m14_1 m14_2 m14_3 m14_4 m14_5 m14_6 m14_7 m8).fst 5) ((LQ.F da db cs da db cs m14_0 m14_1 m14_2 m14_3 m14_4 m14_5 m14_6 m14_7 m8).fst 6) ((LQ.F da db cs da db cs m14_0 m14_1 m14_2 m14_3 m14_4 m14_5 m14_6 m14_7 m8).fst 7) (LQ.F da db cs da db cs m14_0 m14_1 m14_2 m14_3 m14_4 m14_5 m14_6 m14_7 m8).snd da db cs [] 0 [AV.i IntKind.i64 m14_0, AV.i IntKind.i64 m14_1, AV.i IntKind.i64 m14_2, AV.i IntKind.i64 m14_3, AV.i IntKind.i64 m14_4, AV.i IntKind.i64 m14_5, AV.i IntKind.i64 m14_6, AV.i IntKind.i64 m14_7])]].length).ble 9223372036854775807 && true) (cond (((t7.length + [[AV.rs 3 (v45aa_0_t10 t3 t7 ((LQ.F da db cs da db cs m14_0 m14_1 m14_2 m14_3 m14_4 m14_5 m14_6 m14_7 m8).fst 0) ((LQ.F da db cs da db cs m14_0 m14_1 m14_2 m14_3 m14_4 m14_5 m14_6 m14_7 m8).fst 1) ((LQ.F da db cs da db cs m14_0 m14_1 m14_2 m14_3 m14_4 m14_5 m14_6 m14_7 m8).fst 2) ((LQ.F da db cs da db cs m14_0 m14_1 m14_2 m14_3 m14_4 m14_5 m14_6 m14_7 m8).fst 3) ((LQ.F da db cs da db cs m14_0 m14_1 m14_2 m14_3 m14_4 m14_5 m14_6 m14_7 m8).fst 4) ((LQ.F da db cs da db cs m14_0 m14_1 m14_2 m14_3 m14_4 m14_5 m14_6 m14_7 m8).fst 5) ((LQ.F da db cs da db cs m14_0 m14_1 m14_2 m14_3 m14_4 m14_5 m14_6 m14_7 m8).fst 6) ((LQ.F da db cs da db cs m14_0 m14_1 m14_2 m14_3 m14_4 m14_5 m14_6 m14_7 m8).fst 7) (LQ.F da db cs da db cs m14_0 m14_1 m14_2 m14_3 m14_4 m14_5 m14_6 m14_7 m8).snd da db cs [] 0 [AV.i IntKind.i64 m14_0, AV.i IntKind.i64 m14_1, AV.i IntKind.i64 m14_2, AV.i IntKind.i64 m14_3, AV.i IntKind.i64 m14_4, AV.i IntKind.i64 m14_5, AV.i IntKind.i64 m14_6, AV.i IntKind.i64 m14_7])]].length) * 24).ble 140737488355328) (.go ⟨t7 ++ [[AV.rs 3 (v45aa_0_t10 t3 t7 ((LQ.F da db cs da db cs m14_0 m14_1 m14_2 m14_3 m14_4 m14_5 m14_6 m14_7 m8).fst 0) ((LQ.F da db cs da db cs m14_0 m14_1 m14_2 m14_3 m14_4 m14_5 m14_6 m14_7 m8).fst 1) ((LQ.F da db cs da db cs m14_0 m14_1 m14_2 m14_3 m14_4 m14_5 m14_6 m14_7 m8).fst 2) ((LQ.F da db cs da db cs m14_0 m14_1 m14_2 m14_3 m14_4 m14_5 m14_6 m14_7 m8).fst 3) ((LQ.F da db cs da db cs m14_0 m14_1 m14_2 m14_3 m14_4 m14_5 m14_6 m14_7 m8).fst 4) ((LQ.F da db cs da db cs m14_0 m14_1 m14_2 m14_3 m14_4 m14_5 m14_6 m14_7 m8).fst 5) ((LQ.F da db cs da db cs m14_0 m14_1 m14_2 m14_3 m14_4 m14_5 m14_6 m14_7 m8).fst 6) ((LQ.F da db cs da db cs m14_0 m14_1 m14_2 m14_3 m14_4 m14_5 m14_6 m14_7 m8).fst 7) (LQ.F da db cs da db cs m14_0 m14_1 m14_2 m14_3 m14_4 m14_5 m14_6 m14_7 m8).snd da db cs [] 0 [AV.i IntKind.i64 m14_0, AV.i IntKind.i64 m14_1, AV.i IntKind.i64 m14_2, AV.i IntKind.i64 m14_3, AV.i IntKind.i64 m14_4, AV.i IntKind.i64 m14_5, AV.i IntKind.i64 m14_6, AV.i IntKind.i64 m14_7])]], fI ([v45aa_0_m14 t3 t7 ((LQ.F da db cs da db cs m14_0 m14_1 m14_2 m14_3 m14_4 m14_5 m14_6 m14_7 m8).fst 0) ((LQ.F da db cs da db cs m14_0 m14_1 m14_2 m14_3 m14_4 m14_5 m14_6 m14_7 m8).fst 1) ((LQ.F da db cs da db cs m14_0 m14_1 m14_2 m14_3 m14_4 m14_5 m14_6 m14_7 m8).fst 2) ((LQ.F da db cs da db cs m14_0 m14_1 m14_2 m14_3 m14_4 m14_5 m14_6 m14_7 m8).fst 3) ((LQ.F da db cs da db cs m14_0 m14_1 m14_2 m14_3 m14_4 m14_5 m14_6 m14_7 m8).fst 4) ((LQ.F da db cs da db cs m14_0 m14_1 m14_2 m14_3 m14_4 m14_5 m14_6 m14_7 m8).fst 5) ((LQ.F da db cs da db cs m14_0 m14_1 m14_2 m14_3 m14_4 m14_5 m14_6 m14_7 m8).fst 6) ((LQ.F da db cs da db cs m14_0 m14_1 m14_2 m14_3 m14_4 m14_5 m14_6 m14_7 m8).fst 7) (LQ.F da db cs da db cs m14_0 m14_1 m14_2 m14_3 m14_4 m14_5 m14_6 m14_7 m8).snd da db cs [] 0 [AV.i IntKind.i64 m14_0, AV.i IntKind.i64 m14_1, AV.i IntKind.i64 m14_2, AV.i IntKind.i64 m14_3, AV.i IntKind.i64 m14_4, AV.i IntKind.i64 m14_5, AV.i IntKind.i64 m14_6, AV.i IntKind.i64 m14_7]].getD 0 []) 0, fI ([v45aa_0_m14 t3 t7 ((LQ.F da db cs da db cs m14_0 m14_1 m14_2 m14_3 m14_4 m14_5 m14_6 m14_7 m8).fst 0) ((LQ.F da db cs da db cs m14_0 m14_1 m14_2 m14_3 m14_4 m14_5 m14_6 m14_7 m8).fst 1) ((LQ.F da db cs da db cs m14_0 m14_1 m14_2 m14_3 m14_4 m14_5 m14_6 m14_7 m8).fst 2) ((LQ.F da db cs da db cs m14_0 m14_1 m14_2 m14_3 m14_4 m14_5 m14_6 m14_7 m8).fst 3) ((LQ.F da db cs da db cs m14_0 m14_1 m14_2 m14_3 m14_4 m14_5 m14_6 m14_7 m8).fst 4) ((LQ.F da db cs da db cs m14_0 m14_1 m14_2 m14_3 m14_4 m14_5 m14_6 m14_7 m8).fst 5) ((LQ.F da db cs da db cs m14_0 m14_1 m14_2 m14_3 m14_4 m14_5 m14_6 m14_7 m8).fst 6) ((LQ.F da db cs da db cs m14_0 m14_1 m14_2 m14_3 m14_4 m14_5 m14_6 m14_7 m8).fst 7) (LQ.F da db cs da db cs m14_0 m14_1 m14_2 m14_3 m14_4 m14_5 m14_6 m14_7 m8).snd da db cs [] 0 [AV.i IntKind.i64 m14_0, AV.i IntKind.i64 m14_1, AV.i IntKind.i64 m14_2, AV.i IntKind.i64 m14_3, AV.i IntKind.i64 m14_4, AV.i IntKind.i64 m14_5, AV.i IntKind.i64 m14_6, AV.i IntKind.i64 m14_7]].getD 0 []) 1, fI ([v45aa_0_m14 t3 t7 ((LQ.F da db cs da db cs m14_0 m14_1 m14_2 m14_3 m14_4 m14_5 m14_6 m14_7 m8).fst 0) ((LQ.F da db cs da db cs m14_0 m14_1 m14_2 m14_3 m14_4 m14_5 m14_6 m14_7 m8).fst 1) ((LQ.F da db cs da db cs m14_0 m14_1 m14_2 m14_3 m14_4 m14_5 m14_6 m14_7 m8).fst 2) ((LQ.F da db cs da db cs m14_0 m14_1 m14_2 m14_3 m14_4 m14_5 m14_6 m14_7 m8).fst 3) ((LQ.F da db cs da db cs m14_0 m14_1 m14_2 m14_3 m14_4 m14_5 m14_6 m14_7 m8).fst 4) ((LQ.F da db cs da db cs m14_0 m14_1 m14_2 m14_3 m14_4 m14_5 m14_6 m14_7 m8).fst 5) ((LQ.F da db cs da db cs m14_0 m14_1 m14_2 m14_3 m14_4 m14_5 m14_6 m14_7 m8).fst 6) ((LQ.F da db cs da db cs m14_0 m14_1 m14_2 m14_3 m14_4 m14_5 m14_6 m14_7 m8).fst 7) (LQ.F da db cs da db cs m14_0 m14_1 m14_2 m14_3 m14_4 m14_5 m14_6 m14_7 m8).snd da db cs [] 0 [AV.i IntKind.i64 m14_0, AV.i IntKind.i64 m14_1, AV.i IntKind.i64 m14_2, AV.i IntKind.i64 m14_3, AV.i IntKind.i64 m14_4, AV.i IntKind.i64 m14_5, AV.i IntKind.i64 m14_6, AV.i IntKind.i64 m14_7]].getD 0 []) 2, fI ([v45aa_0_m14 t3 t7 ((LQ.F da db cs da db cs m14_0 m14_1 m14_2 m14_3 m14_4 m14_5 m14_6 m14_7 m8).fst 0) ((LQ.F da db cs da db cs m14_0 m14_1 m14_2 m14_3 m14_4 m14_5 m14_6 m14_7 m8).fst 1) ((LQ.F da db cs da db cs m14_0 m14_1 m14_2 m14_3 m14_4 m14_5 m14_6 m14_7 m8).fst 2) ((LQ.F da db cs da db cs m14_0 m14_1 m14_2 m14_3 m14_4 m14_5 m14_6 m14_7 m8).fst 3) ((LQ.F da db cs da db cs m14_0 m14_1 m14_2 m14_3 m14_4 m14_5 m14_6 m14_7 m8).fst 4) ((LQ.F da db cs da db cs m14_0 m14_1 m14_2 m14_3 m14_4 m14_5 m14_6 m14_7 m8).fst 5) ((LQ.F da db cs da db cs m14_0 m14_1 m14_2 m14_3 m14_4 m14_5 m14_6 m14_7 m8).fst 6) ((LQ.F da db cs da db cs m14_0 m14_1 m14_2 m14_3 m14_4 m14_5 m14_6 m14_7 m8).fst 7) (LQ.F da db cs da db cs m14_0 m14_1 m14_2 m14_3 m14_4 m14_5 m14_6 m14_7 m8).snd da db cs [] 0 [AV.i IntKind.i64 m14_0, AV.i IntKind.i64 m14_1, AV.i IntKind.i64 m14_2, AV.i IntKind.i64 m14_3, AV.i IntKind.i64 m14_4, AV.i IntKind.i64 m14_5, AV.i IntKind.i64 m14_6, AV.i IntKind.i64 m14_7]].getD 0 []) 3, fI ([v45aa_0_m14 t3 t7 ((LQ.F da db cs da db cs m14_0 m14_1 m14_2 m14_3 m14_4 m14_5 m14_6 m14_7 m8).fst 0) ((LQ.F da db cs da db cs m14_0 m14_1 m14_2 m14_3 m14_4 m14_5 m14_6 m14_7 m8).fst 1) ((LQ.F da db cs da db cs m14_0 m14_1 m14_2 m14_3 m14_4 m14_5 m14_6 m14_7 m8).fst 2) ((LQ.F da db cs da db cs m14_0 m14_1 m14_2 m14_3 m14_4 m14_5 m14_6 m14_7 m8).fst 3) ((LQ.F da db cs da db cs m14_0 m14_1 m14_2 m14_3 m14_4 m14_5 m14_6 m14_7 m8).fst 4) ((LQ.F da db cs da db cs m14_0 m14_1 m14_2 m14_3 m14_4 m14_5 m14_6 m14_7 m8).fst 5) ((LQ.F da db cs da db cs m14_0 m14_1 m14_2 m14_3 m14_4 m14_5 m14_6 m14_7 m8).fst 6) ((LQ.F da db cs da db cs m14_0 m14_1 m14_2 m14_3 m14_4 m14_5 m14_6 m14_7 m8).fst 7) (LQ.F da db cs da db cs m14_0 m14_1 m14_2 m14_3 m14_4 m14_5 m14_6 m14_7 m8).snd da db cs [] 0 [AV.i IntKind.i64 m14_0, AV.i IntKind.i64 m14_1, AV.i IntKind.i64 m14_2, AV.i IntKind.i64 m14_3, AV.i IntKind.i64 m14_4, AV.i IntKind.i64 m14_5, AV.i IntKind.i64 m14_6, AV.i IntKind.i64 m14_7]].getD 0 []) 4, fI ([v45aa_0_m14 t3 t7 ((LQ.F da db cs da db cs m14_0 m14_1 m14_2 m14_3 m14_4 m14_5 m14_6 m14_7 m8).fst 0) ((LQ.F da db cs da db cs m14_0 m14_1 m14_2 m14_3 m14_4 m14_5 m14_6 m14_7 m8).fst 1) ((LQ.F da db cs da db cs m14_0 m14_1 m14_2 m14_3 m14_4 m14_5 m14_6 m14_7 m8).fst 2) ((LQ.F da db cs da db cs m14_0 m14_1 m14_2 m14_3 m14_4 m14_5 m14_6 m14_7 m8).fst 3) ((LQ.F da db cs da db cs m14_0 m14_1 m14_2 m14_3 m14_4 m14_5 m14_6 m14_7 m8).fst 4) ((LQ.F da db cs da db cs m14_0 m14_1 m14_2 m14_3 m14_4 m14_5 m14_6 m14_7 m8).fst 5) ((LQ.F da db cs da db cs m14_0 m14_1 m14_2 m14_3 m14_4 m14_5 m14_6 m14_7 m8).fst 6) ((LQ.F da db cs da db cs m14_0 m14_1 m14_2 m14_3 m14_4 m14_5 m14_6 m14_7 m8).fst 7) (LQ.F da db cs da db cs m14_0 m14_1 m14_2 m14_3 m14_4 m14_5 m14_6 m14_7 m8).snd da db cs [] 0 [AV.i IntKind.i64 m14_0, AV.i IntKind.i64 m14_1, AV.i IntKind.i64 m14_2, AV.i IntKind.i64 m14_3, AV.i IntKind.i64 m14_4, AV.i IntKind.i64 m14_5, AV.i IntKind.i64 m14_6, AV.i IntKind.i64 m14_7]].getD 0 []) 5, fI ([v45aa_0_m14 t3 t7 ((LQ.F da db cs da db cs m14_0 m14_1 m14_2 m14_3 m14_4 m14_5 m14_6 m14_7 m8).fst 0) ((LQ.F da db cs da db cs m14_0 m14_1 m14_2 m14_3 m14_4 m14_5 m14_6 m14_7 m8).fst 1) ((LQ.F da db cs da db cs m14_0 m14_1 m14_2 m14_3 m14_4 m14_5 m14_6 m14_7 m8).fst 2) ((LQ.F da db cs da db cs m14_0 m14_1 m14_2 m14_3 m14_4 m14_5 m14_6 m14_7 m8).fst 3) ((LQ.F da db cs da db cs m14_0 m14_1 m14_2 m14_3 m14_4 m14_5 m14_6 m14_7 m8).fst 4) ((LQ.F da db cs da db cs m14_0 m14_1 m14_2 m14_3 m14_4 m14_5 m14_6 m14_7 m8).fst 5) ((LQ.F da db cs da db cs m14_0 m14_1 m14_2 m14_3 m14_4 m14_5 m14_6 m14_7 m8).fst 6) ((LQ.F da db cs da db cs m14_0 m14_1 m14_2 m14_3 m14_4 m14_5 m14_6 m14_7 m8).fst 7) (LQ.F da db cs da db cs m14_0 m14_1 m14_2 m14_3 m14_4 m14_5 m14_6 m14_7 m8).snd da db cs [] 0 [AV.i IntKind.i64 m14_0, AV.i IntKind.i64 m14_1, AV.i IntKind.i64 m14_2, AV.i IntKind.i64 m14_3, AV.i IntKind.i64 m14_4, AV.i IntKind.i64 m14_5, AV.i IntKind.i64 m14_6, AV.i IntKind.i64 m14_7]].getD 0 []) 6, fI ([v45aa_0_m14 t3 t7 ((LQ.F da db cs da db cs m14_0 m14_1 m14_2 m14_3 m14_4 m14_5 m14_6 m14_7 m8).fst 0) ((LQ.F da db cs da db cs m14_0 m14_1 m14_2 m14_3 m14_4 m14_5 m14_6 m14_7 m8).fst 1) ((LQ.F da db cs da db cs m14_0 m14_1 m14_2 m14_3 m14_4 m14_5 m14_6 m14_7 m8).fst 2) ((LQ.F da db cs da db cs m14_0 m14_1 m14_2 m14_3 m14_4 m14_5 m14_6 m14_7 m8).fst 3) ((LQ.F da db cs da db cs m14_0 m14_1 m14_2 m14_3 m14_4 m14_5 m14_6 m14_7 m8).fst 4) ((LQ.F da db cs da db cs m14_0 m14_1 m14_2 m14_3 m14_4 m14_5 m14_6 m14_7 m8).fst 5) ((LQ.F da db cs da db cs m14_0 m14_1 m14_2 m14_3 m14_4 m14_5 m14_6 m14_7 m8).fst 6) ((LQ.F da db cs da db cs m14_0 m14_1 m14_2 m14_3 m14_4 m14_5 m14_6 m14_7 m8).fst 7) (LQ.F da db cs da db cs m14_0 m14_1 m14_2 m14_3 m14_4 m14_5 m14_6 m14_7 m8).snd da db cs [] 0 [AV.i IntKind.i64 m14_0, AV.i IntKind.i64 m14_1, AV.i IntKind.i64 m14_2, AV.i IntKind.i64 m14_3, AV.i IntKind.i64 m14_4, AV.i IntKind.i64 m14_5, AV.i IntKind.i64 m14_6, AV.i IntKind.i64 m14_7]].getD 0 []) 7, (LQ.F da db cs da db cs m14_0 m14_1 m14_2 m14_3 m14_4 m14_5 m14_6 m14_7 m8).snd⟩) (.bad)) (.bad)) (.bad)) (.bad)) (.out (.x0 t7 m14_0 m14_1 m14_2 m14_3 m14_4 m14_5 m14_6 m14_7 m8))
noncomputable def o45a_0 (t3 : Int) (da : Int) (db : Int) (cs : List (List AV)) (t7 : List (List AV)) (m14_0 : Int) (m14_1 : Int) (m14_2 : Int) (m14_3 : Int) (m14_4 : Int) (m14_5 : Int) (m14_6 : Int) (m14_7 : Int) (m8 : List (AV × AV)) : St :=
  { t := [(2, .nl), (3, .i .i64 t3), (5, .p 10 0 0), (6, .p 12 0 0), (7, .gv 13 36 t7), (8, .p 14 0 0)], m := [(13, .fr 36), (14, .row 104 [[.i .i64 m14_0, .i .i64 m14_1, .i .i64 m14_2, .i .i64 m14_3, .i .i64 m14_4, .i .i64 m14_5, .i .i64 m14_6, .i .i64 m14_7]]), (0, .dead), (1, .dead), (2, .dead), (3, .dead), (4, .dead), (5, .dead), (6, .dead), (7, .dead), (8, .mp 104 106 m8), (9, .dead), (10, .row 101 [[.mp 8]]), (11, .dead), (12, .row 102 [[.fn 72 [.rp [.int .i64, .int .i64, .sl 64] [.i .i64 da, .i .i64 db, .rs 64 cs] 0, .p 10 0 0, .p 12 0 0]]])], nx := 15, nt := 54 }
noncomputable def ou45a (t3 : Int) (da : Int) (db : Int) (cs : List (List AV)) : T45a → Ex × St
  | .x0 t7 m14_0 m14_1 m14_2 m14_3 m14_4 m14_5 m14_6 m14_7 m8 => (.ext 0, o45a_0 t3 da db cs t7 m14_0 m14_1 m14_2 m14_3 m14_4 m14_5 m14_6 m14_7 m8)
noncomputable def r45a (t3 : Int) (da : Int) (db : Int) (cs : List (List AV)) (t7 : List (List AV)) (m14_0 : Int) (m14_1 : Int) (m14_2 : Int) (m14_3 : Int) (m14_4 : Int) (m14_5 : Int) (m14_6 : Int) (m14_7 : Int) (m8 : List (AV × AV)) : Option T45a := run (fun x => stp45a t3 da db cs x.t7 x.m14_0 x.m14_1 x.m14_2 x.m14_3 x.m14_4 x.m14_5 x.m14_6 x.m14_7 x.m8) (⟨t7, m14_0, m14_1, m14_2, m14_3, m14_4, m14_5, m14_6, m14_7, m8⟩ : S45a)
noncomputable def i45a_0 (t3 : Int) (da : Int) (db : Int) (cs : List (List AV)) (t7 : List (List AV)) (m14_0 : Int) (m14_1 : Int) (m14_2 : Int) (m14_3 : Int) (m14_4 : Int) (m14_5 : Int) (m14_6 : Int) (m14_7 : Int) (m8 : List (AV × AV)) : Bool := match r45a t3 da db cs t7 m14_0 m14_1 m14_2 m14_3 m14_4 m14_5 m14_6 m14_7 m8 with
  | some (.x0 _ _ _ _ _ _ _ _ _ _) => true
  | _ => false
noncomputable def v45a_0_t7 (t3 : Int) (da : Int) (db : Int) (cs : List (List AV)) (t7 : List (List AV)) (m14_0 : Int) (m14_1 : Int) (m14_2 : Int) (m14_3 : Int) (m14_4 : Int) (m14_5 : Int) (m14_6 : Int) (m14_7 : Int) (m8 : List (AV × AV)) : List (List AV) := match r45a t3 da db cs t7 m14_0 m14_1 m14_2 m14_3 m14_4 m14_5 m14_6 m14_7 m8 with
  | some (.x0 t7 _ _ _ _ _ _ _ _ _) => t7
  | _ => default
noncomputable def v45a_0_m14_0 (t3 : Int) (da : Int) (db : Int) (cs : List (List AV)) (t7 : List (List AV)) (m14_0 : Int) (m14_1 : Int) (m14_2 : Int) (m14_3 : Int) (m14_4 : Int) (m14_5 : Int) (m14_6 : Int) (m14_7 : Int) (m8 : List (AV × AV)) : Int := match r45a t3 da db cs t7 m14_0 m14_1 m14_2 m14_3 m14_4 m14_5 m14_6 m14_7 m8 with
  | some (.x0 _ m14_0 _ _ _ _ _ _ _ _) => m14_0
  | _ => default
noncomputable def v45a_0_m14_1 (t3 : Int) (da : Int) (db : Int) (cs : List (List AV)) (t7 : List (List AV)) (m14_0 : Int) (m14_1 : Int) (m14_2 : Int) (m14_3 : Int) (m14_4 : Int) (m14_5 : Int) (m14_6 : Int) (m14_7 : Int) (m8 : List (AV × AV)) : Int := match r45a t3 da db cs t7 m14_0 m14_1 m14_2 m14_3 m14_4 m14_5 m14_6 m14_7 m8 with
  | some (.x0 _ _ m14_1 _ _ _ _ _ _ _) => m14_1
  | _ => default
noncomputable def v45a_0_m14_2 (t3 : Int) (da : Int) (db : Int) (cs : List (List AV)) (t7 : List (List AV)) (m14_0 : Int) (m14_1 : Int) (m14_2 : Int) (m14_3 : Int) (m14_4 : Int) (m14_5 : Int) (m14_6 : Int) (m14_7 : Int) (m8 : List (AV × AV)) : Int := match r45a t3 da db cs t7 m14_0 m14_1 m14_2 m14_3 m14_4 m14_5 m14_6 m14_7 m8 with
  | some (.x0 _ _ _ m14_2 _ _ _ _ _ _) => m14_2
  | _ => default
noncomputable def v45a_0_m14_3 (t3 : Int) (da : Int) (db : Int) (cs : List (List AV)) (t7 : List (List AV)) (m14_0 : Int) (m14_1 : Int) (m14_2 : Int) (m14_3 : Int) (m14_4 : Int) (m14_5 : Int) (m14_6 : Int) (m14_7 : Int) (m8 : List (AV × AV)) : Int := match r45a t3 da db cs t7 m14_0 m14_1 m14_2 m14_3 m14_4 m14_5 m14_6 m14_7 m8 with
  | some (.x0 _ _ _ _ m14_3 _ _ _ _ _) => m14_3
  | _ => default
noncomputable def v45a_0_m14_4 (t3 : Int) (da : Int) (db : Int) (cs : List (List AV)) (t7 : List (List AV)) (m14_0 : Int) (m14_1 : Int) (m14_2 : Int) (m14_3 : Int) (m14_4 : Int) (m14_5 : Int) (m14_6 : Int) (m14_7 : Int) (m8 : List (AV × AV)) : Int := match r45a t3 da db cs t7 m14_0 m14_1 m14_2 m14_3 m14_4 m14_5 m14_6 m14_7 m8 with
  | some (.x0 _ _ _ _ _ m14_4 _ _ _ _) => m14_4
  | _ => default
noncomputable def v45a_0_m14_5 (t3 : Int) (da : Int) (db : Int) (cs : List (List AV)) (t7 : List (List AV)) (m14_0 : Int) (m14_1 : Int) (m14_2 : Int) (m14_3 : Int) (m14_4 : Int) (m14_5 : Int) (m14_6 : Int) (m14_7 : Int) (m8 : List (AV × AV)) : Int := match r45a t3 da db cs t7 m14_0 m14_1 m14_2 m14_3 m14_4 m14_5 m14_6 m14_7 m8 with
  | some (.x0 _ _ _ _ _ _ m14_5 _ _ _) => m14_5
  | _ => default
noncomputable def v45a_0_m14_6 (t3 : Int) (da : Int) (db : Int) (cs : List (List AV)) (t7 : List (List AV)) (m14_0 : Int) (m14_1 : Int) (m14_2 : Int) (m14_3 : Int) (m14_4 : Int) (m14_5 : Int) (m14_6 : Int) (m14_7 : Int) (m8 : List (AV × AV)) : Int := match r45a t3 da db cs t7 m14_0 m14_1 m14_2 m14_3 m14_4 m14_5 m14_6 m14_7 m8 with
  | some (.x0 _ _ _ _ _ _ _ m14_6 _ _) => m14_6
  | _ => default
noncomputable def v45a_0_m14_7 (t3 : Int) (da : Int) (db : Int) (cs : List (List AV)) (t7 : List (List AV)) (m14_0 : Int) (m14_1 : Int) (m14_2 : Int) (m14_3 : Int) (m14_4 : Int) (m14_5 : Int) (m14_6 : Int) (m14_7 : Int) (m8 : List (AV × AV)) : Int := match r45a t3 da db cs t7 m14_0 m14_1 m14_2 m14_3 m14_4 m14_5 m14_6 m14_7 m8 with
  | some (.x0 _ _ _ _ _ _ _ _ m14_7 _) => m14_7
  | _ => default
noncomputable def v45a_0_m8 (t3 : Int) (da : Int) (db : Int) (cs : List (List AV)) (t7 : List (List AV)) (m14_0 : Int) (m14_1 : Int) (m14_2 : Int) (m14_3 : Int) (m14_4 : Int) (m14_5 : Int) (m14_6 : Int) (m14_7 : Int) (m8 : List (AV × AV)) : List (AV × AV) := match r45a t3 da db cs t7 m14_0 m14_1 m14_2 m14_3 m14_4 m14_5 m14_6 m14_7 m8 with
  | some (.x0 _ _ _ _ _ _ _ _ _ m8) => m8
  | _ => default
noncomputable def l45a (st : St) : Option (List (Bool × Ex × St)) := match normW Try.prog [(2, none), (3, none), (5, none), (6, none), (7, some 36), (8, some 104)] 13 st with
  | some ([.nl, .i .i64 t3, .p 10 0 0, .p 12 0 0, .gv 13 36 t7, .p 14 0 0], [(13, .fr 36), (14, .row 104 [[.i .i64 m14_0, .i .i64 m14_1, .i .i64 m14_2, .i .i64 m14_3, .i .i64 m14_4, .i .i64 m14_5, .i .i64 m14_6, .i .i64 m14_7]]), (0, .dead), (1, .dead), (2, .dead), (3, .dead), (4, .dead), (5, .dead), (6, .dead), (7, .dead), (8, .mp 104 106 m8), (9, .dead), (10, .row 101 [[.mp 8]]), (11, .dead), (12, .row 102 [[.fn 72 [.rp [.int .i64, .int .i64, .sl 64] [.i .i64 da, .i .i64 db, .rs 64 cs] 0, .p 10 0 0, .p 12 0 0]]])], 15, 54) => some [(i45a_0 t3 da db cs t7 m14_0 m14_1 m14_2 m14_3 m14_4 m14_5 m14_6 m14_7 m8, .ext 0, o45a_0 t3 da db cs (v45a_0_t7 t3 da db cs t7 m14_0 m14_1 m14_2 m14_3 m14_4 m14_5 m14_6 m14_7 m8) (v45a_0_m14_0 t3 da db cs t7 m14_0 m14_1 m14_2 m14_3 m14_4 m14_5 m14_6 m14_7 m8) (v45a_0_m14_1 t3 da db cs t7 m14_0 m14_1 m14_2 m14_3 m14_4 m14_5 m14_6 m14_7 m8) (v45a_0_m14_2 t3 da db cs t7 m14_0 m14_1 m14_2 m14_3 m14_4 m14_5 m14_6 m14_7 m8) (v45a_0_m14_3 t3 da db cs t7 m14_0 m14_1 m14_2 m14_3 m14_4 m14_5 m14_6 m14_7 m8) (v45a_0_m14_4 t3 da db cs t7 m14_0 m14_1 m14_2 m14_3 m14_4 m14_5 m14_6 m14_7 m8) (v45a_0_m14_5 t3 da db cs t7 m14_0 m14_1 m14_2 m14_3 m14_4 m14_5 m14_6 m14_7 m8) (v45a_0_m14_6 t3 da db cs t7 m14_0 m14_1 m14_2 m14_3 m14_4 m14_5 m14_6 m14_7 m8) (v45a_0_m14_7 t3 da db cs t7 m14_0 m14_1 m14_2 m14_3 m14_4 m14_5 m14_6 m14_7 m8) (v45a_0_m8 t3 da db cs t7 m14_0 m14_1 m14_2 m14_3 m14_4 m14_5 m14_6 m14_7 m8))]
  | _ => none
noncomputable def L45 : LSpec := fun p st => match p with
  | [false, true, false, true, true, false, false, true, false, false, true, false, true, true, true, true, true, true] => l45aa st
  | [false, true, false, true, true, true, true, true, true] => l45a st
  | _ => none
theorem round45aa (t3 : Int) (t7 : List (List AV)) (t10 : List (List AV)) (t30_0 : Int) (t30_1 : Int) (t30_2 : Int) (t30_3 : Int) (t30_4 : Int) (t30_5 : Int) (t30_6 : Int) (t30_7 : Int) (t31 : Int) (m8 : List (AV × AV)) (da : Int) (db : Int) (cs : List (List AV)) (m14 : List AV) : round Try.prog SPm (ro 45) L45 lp45aa [false, true, false, true, true, false, false, true, false, false, true, false, true, true, true, true, true, true] [(2, none), (3, none), (5, none), (6, none), (7, some 36), (8, none), (10, some 3), (30, none), (31, none)] 15 (s45aa t3 t7 t10 t30_0 t30_1 t30_2 t30_3 t30_4 t30_5 t30_6 t30_7 t31 m8 da db cs m14) =
    cond (decide (t31 < 8)) (cond (intsOf IntKind.i64 [AV.i IntKind.i64 t30_0, AV.i IntKind.i64 t30_1, AV.i IntKind.i64 t30_2, AV.i IntKind.i64 t30_3, AV.i IntKind.i64 t30_4, AV.i IntKind.i64 t30_5, AV.i IntKind.i64 t30_6, AV.i IntKind.i64 t30_7] && (inb t31 8 && inb t31 [AV.i IntKind.i64 t30_0, AV.i IntKind.i64 t30_1, AV.i IntKind.i64 t30_2, AV.i IntKind.i64 t30_3, AV.i IntKind.i64 t30_4, AV.i IntKind.i64 t30_5, AV.i IntKind.i64 t30_6, AV.i IntKind.i64 t30_7].length)) (cond (g78 t31 (toI ([AV.i IntKind.i64 t30_0, AV.i IntKind.i64 t30_1, AV.i IntKind.i64 t30_2, AV.i IntKind.i64 t30_3, AV.i IntKind.i64 t30_4, AV.i IntKind.i64 t30_5, AV.i IntKind.i64 t30_6, AV.i IntKind.i64 t30_7].getD t31.toNat AV.u))) (cond ((t10.length + (w78_0 t31 (toI ([AV.i IntKind.i64 t30_0, AV.i IntKind.i64 t30_1, AV.i IntKind.i64 t30_2, AV.i IntKind.i64 t30_3, AV.i IntKind.i64 t30_4, AV.i IntKind.i64 t30_5, AV.i IntKind.i64 t30_6, AV.i IntKind.i64 t30_7].getD t31.toNat AV.u))).length).ble 9223372036854775807 && true) (cond (((t10.length + (w78_0 t31 (toI ([AV.i IntKind.i64 t30_0, AV.i IntKind.i64 t30_1, AV.i IntKind.i64 t30_2, AV.i IntKind.i64 t30_3, AV.i IntKind.i64 t30_4, AV.i IntKind.i64 t30_5, AV.i IntKind.i64 t30_6, AV.i IntKind.i64 t30_7].getD t31.toNat AV.u))).length) * 8).ble 140737488355328) (cond (inb t31 8) (cond (ctsAt (cts Try.prog 104) (0 + t31.toNat * 1) (cts Try.prog 3) && true) (cond (inb t31 8) (cond (ctsAt (cts Try.prog 104) (0 + t31.toNat * 1) (cts Try.prog 3) && true) (some (.nrm, s45aa t3 t7 (t10 ++ w78_0 t31 (toI ([AV.i IntKind.i64 t30_0, AV.i IntKind.i64 t30_1, AV.i IntKind.i64 t30_2, AV.i IntKind.i64 t30_3, AV.i IntKind.i64 t30_4, AV.i IntKind.i64 t30_5, AV.i IntKind.i64 t30_6, AV.i IntKind.i64 t30_7].getD t31.toNat AV.u))) t30_0 t30_1 t30_2 t30_3 t30_4 t30_5 t30_6 t30_7 (IntKind.i64.wrap (t31 + 1)) m8 da db cs (setCs ([m14].getD 0 []) (0 + t31.toNat * 1) [AV.i IntKind.i64 (IntKind.i64.wrap (toI (([m14].getD 0 []).getD (0 + t31.toNat * 1) AV.u) - toI ([AV.i IntKind.i64 t30_0, AV.i IntKind.i64 t30_1, AV.i IntKind.i64 t30_2, AV.i IntKind.i64 t30_3, AV.i IntKind.i64 t30_4, AV.i IntKind.i64 t30_5, AV.i IntKind.i64 t30_6, AV.i IntKind.i64 t30_7].getD t31.toNat AV.u)))]))) (none)) (none)) (none)) (none)) (none)) (none)) (none)) (none)) (some (.ext 2, o45aa_0 t3 t7 t30_0 t30_1 t30_2 t30_3 t30_4 t30_5 t30_6 t30_7 m8 da db cs t10 t31 m14)) := by kernel_rfl
theorem rnd45aa (t3 : Int) (t7 : List (List AV)) (t30_0 : Int) (t30_1 : Int) (t30_2 : Int) (t30_3 : Int) (t30_4 : Int) (t30_5 : Int) (t30_6 : Int) (t30_7 : Int) (m8 : List (AV × AV)) (da : Int) (db : Int) (cs : List (List AV)) (x : S45aa) : round Try.prog SPm (ro 45) L45 lp45aa [false, true, false, true, true, false, false, true, false, false, true, false, true, true, true, true, true, true] [(2, none), (3, none), (5, none), (6, none), (7, some 36), (8, none), (10, some 3), (30, none), (31, none)] 15 ((fun x => s45aa t3 t7 x.t10 t30_0 t30_1 t30_2 t30_3 t30_4 t30_5 t30_6 t30_7 x.t31 m8 da db cs x.m14) x) = toR (fun x => s45aa t3 t7 x.t10 t30_0 t30_1 t30_2 t30_3 t30_4 t30_5 t30_6 t30_7 x.t31 m8 da db cs x.m14) (ou45aa t3 t7 t30_0 t30_1 t30_2 t30_3 t30_4 t30_5 t30_6 t30_7 m8 da db cs) (stp45aa t3 t7 t30_0 t30_1 t30_2 t30_3 t30_4 t30_5 t30_6 t30_7 m8 da db cs x.t10 x.t31 x.m14) := by
  refine (round45aa _ _ _ _ _ _ _ _ _ _ _ _ _ _ _ _ _ ).trans ?_
  unfold stp45aa
  simp only [toR_cond]
  rfl
theorem lok45aa {st : St} {outs : List (Bool × Ex × St)} {e : Ex} {s : St} (hl : l45aa st = some outs) (hch : Chosen outs e s) :
    ∃ keep nb, 0 ≤ nb ∧ LB Try.prog SPm (ro 45) L45 lp45aa [false, true, false, true, true, false, false, true, false, false, true, false, true, true, true, true, true, true] keep nb st e s := by
  unfold l45aa at hl
  split at hl
  · rename_i t3 t7 t10 t30_0 t30_1 t30_2 t30_3 t30_4 t30_5 t30_6 t30_7 t31 m8 da db cs m14 hno
    cases hl
    have hno := normW_norm hno
    refine ⟨_, _, ?_, .enter hno ?_⟩
    · decide
    have main := fun y h => LB_run (x := (⟨t10, t31, m14⟩ : S45aa)) (y := y) (nb := 15) (fun y => by cases y <;> simp [ou45aa]) (rnd45aa t3 t7 t30_0 t30_1 t30_2 t30_3 t30_4 t30_5 t30_6 t30_7 m8 da db cs) h
    obtain ⟨x, hx, hg, rfl, rfl⟩ := chosen_any hch
    simp only [List.mem_cons, List.not_mem_nil, or_false] at hx
    subst hx
    exact main _ (is45aa_0 t3 t7 t30_0 t30_1 t30_2 t30_3 t30_4 t30_5 t30_6 t30_7 m8 da db cs t10 t31 m14 hg)
  · cases hl
theorem is45a_0 (t3 : Int) (da : Int) (db : Int) (cs : List (List AV)) (t7 : List (List AV)) (m14_0 : Int) (m14_1 : Int) (m14_2 : Int) (m14_3 : Int) (m14_4 : Int) (m14_5 : Int) (m14_6 : Int) (m14_7 : Int) (m8 : List (AV × AV)) (h : i45a_0 t3 da db cs t7 m14_0 m14_1 m14_2 m14_3 m14_4 m14_5 m14_6 m14_7 m8 = true) : r45a t3 da db cs t7 m14_0 m14_1 m14_2 m14_3 m14_4 m14_5 m14_6 m14_7 m8 = some (.x0 (v45a_0_t7 t3 da db cs t7 m14_0 m14_1 m14_2 m14_3 m14_4 m14_5 m14_6 m14_7 m8) (v45a_0_m14_0 t3 da db cs t7 m14_0 m14_1 m14_2 m14_3 m14_4 m14_5 m14_6 m14_7 m8) (v45a_0_m14_1 t3 da db cs t7 m14_0 m14_1 m14_2 m14_3 m14_4 m14_5 m14_6 m14_7 m8) (v45a_0_m14_2 t3 da db cs t7 m14_0 m14_1 m14_2 m14_3 m14_4 m14_5 m14_6 m14_7 m8) (v45a_0_m14_3 t3 da db cs t7 m14_0 m14_1 m14_2 m14_3 m14_4 m14_5 m14_6 m14_7 m8) (v45a_0_m14_4 t3 da db cs t7 m14_0 m14_1 m14_2 m14_3 m14_4 m14_5 m14_6 m14_7 m8) (v45a_0_m14_5 t3 da db cs t7 m14_0 m14_1 m14_2 m14_3 m14_4 m14_5 m14_6 m14_7 m8) (v45a_0_m14_6 t3 da db cs t7 m14_0 m14_1 m14_2 m14_3 m14_4 m14_5 m14_6 m14_7 m8) (v45a_0_m14_7 t3 da db cs t7 m14_0 m14_1 m14_2 m14_3 m14_4 m14_5 m14_6 m14_7 m8) (v45a_0_m8 t3 da db cs t7 m14_0 m14_1 m14_2 m14_3 m14_4 m14_5 m14_6 m14_7 m8)) := by
  unfold i45a_0 at h
  unfold v45a_0_t7 v45a_0_m14_0 v45a_0_m14_1 v45a_0_m14_2 v45a_0_m14_3 v45a_0_m14_4 v45a_0_m14_5 v45a_0_m14_6 v45a_0_m14_7 v45a_0_m8
  generalize r45a t3 da db cs t7 m14_0 m14_1 m14_2 m14_3 m14_4 m14_5 m14_6 m14_7 m8 = r at h ⊢
  rcases r with _ | y
  · cases h
  · cases y <;> first | rfl | cases h
theorem round45a (t3 : Int) (t7 : List (List AV)) (m14_0 : Int) (m14_1 : Int) (m14_2 : Int) (m14_3 : Int) (m14_4 : Int) (m14_5 : Int) (m14_6 : Int) (m14_7 : Int) (m8 : List (AV × AV)) (da : Int) (db : Int) (cs : List (List AV)) : round Try.prog SPm (ro 45) L45 lp45a [false, true, false, true, true, true, true, true, true] [(2, none), (3, none), (5, none), (6, none), (7, some 36), (8, some 104)] 13 (s45a t3 t7 m14_0 m14_1 m14_2 m14_3 m14_4 m14_5 m14_6 m14_7 m8 da db cs) =
    cond (!(m14_0 == 0 && (m14_1 == 0 && (m14_2 == 0 && (m14_3 == 0 && (m14_4 == 0 && (m14_5 == 0 && (m14_6 == 0 && m14_7 == 0)))))))) (cond (LQ.G da db cs da db cs m14_0 m14_1 m14_2 m14_3 m14_4 m14_5 m14_6 m14_7 m8 && true) (cond (i45aa_0 t3 t7 ((LQ.F da db cs da db cs m14_0 m14_1 m14_2 m14_3 m14_4 m14_5 m14_6 m14_7 m8).fst 0) ((LQ.F da db cs da db cs m14_0 m14_1 m14_2 m14_3 m14_4 m14_5 m14_6 m14_7 m8).fst 1) ((LQ.F da db cs da db cs m14_0 m14_1 m14_2 m14_3 m14_4 m14_5 m14_6 m14_7 m8).fst 2) ((LQ.F da db cs da db cs m14_0 m14_1 m14_2 m14_3 m14_4 m14_5 m14_6 m14_7 m8).fst 3) ((LQ.F da db cs da db cs m14_0 m14_1 m14_2 m14_3 m14_4 m14_5 m14_6 m14_7 m8).fst 4) ((LQ.F da db cs da db cs m14_0 m14_1 m14_2 m14_3 m14_4 m14_5 m14_6 m14_7 m8).fst 5) ((LQ.F da db cs da db cs m14_0 m14_1 m14_2 m14_3 m14_4 m14_5 m14_6 m14_7 m8).fst 6) ((LQ.F da db cs da db cs m14_0 m14_1 m14_2 m14_3 m14_4 m14_5 m14_6 m14_7 m8).fst 7) (LQ.F da db cs da db cs m14_0 m14_1 m14_2 m14_3 m14_4 m14_5 m14_6 m14_7 m8).snd da db cs [] 0 [AV.i IntKind.i64 m14_0, AV.i IntKind.i64 m14_1, AV.i IntKind.i64 m14_2, AV.i IntKind.i64 m14_3, AV.i IntKind.i64 m14_4, AV.i IntKind.i64 m14_5, AV.i IntKind.i64 m14_6, AV.i IntKind.i64 m14_7]) (cond ((t7.length + [[AV.rs 3 (v45aa_0_t10 t3 t7 ((LQ.F da db cs da db cs m14_0 m14_1 m14_2 m14_3 m14_4 m14_5 m14_6 m14_7 m8).fst 0) ((LQ.F da db cs da db cs m14_0 m14_1 m14_2 m14_3 m14_4 m14_5 m14_6 m14_7 m8).fst 1) ((LQ.F da db cs da db cs m14_0 m14_1 m14_2 m14_3 m14_4 m14_5 m14_6 m14_7 m8).fst 2) ((LQ.F da db cs da db cs m14_0 m14_1 m14_2 m14_3 m14_4 m14_5 m14_6 m14_7 m8).fst 3) ((LQ.F da db cs da db cs m14_0 m14_1 m14_2 m14_3 m14_4 m14_5 m14_6 m14_7 m8).fst 4) ((LQ.F da db cs da db cs m14_0 m14_1 m14_2 m14_3 m14_4 m14_5 m14_6 m14_7 m8).fst 5) ((LQ.F da db cs da db cs m14_0 m14_1 m14_2 m14_3 m14_4 m14_5 m14_6 m14_7 m8).fst 6) ((LQ.F da db cs da db cs m14_0 m14_1 m14_2 m14_3 m14_4 m14_5 m14_6 m14_7 m8).fst 7) (LQ.F da db cs da db cs m14_0 m14_1 m14_2 m14_3 m14_4 m14_5 m14_6 m14_7 m8).snd da db cs [] 0 [AV.i IntKind.i64 m14_0, AV.i IntKind.i64 m14_1, AV.i IntKind.i64 m14_2, AV.i IntKind.i64 m14_3, AV.i IntKind.i64 m14_4, AV.i IntKind.i64 m14_5, AV.i IntKind.i64 m14_6, AV.i IntKind.i64 m14_7])]].length).ble 9223372036854775807 && true) (cond (((t7.length + [[AV.rs 3 (v45aa_0_t10 t3 t7 ((LQ.F da db cs da db cs m14_0 m14_1 m14_2 m14_3 m14_4 m14_5 m14_6 m14_7 m8).fst 0) ((LQ.F da db cs da db cs m14_0 m14_1 m14_2 m14_3 m14_4 m14_5 m14_6 m14_7 m8).fst 1) ((LQ.F da db cs da db cs m14_0 m14_1 m14_2 m14_3 m14_4 m14_5 m14_6 m14_7 m8).fst 2) ((LQ.F da db cs da db cs m14_0 m14_1 m14_2 m14_3 m14_4 m14_5 m14_6 m14_7 m8).fst 3) ((LQ.F da db cs da db cs m14_0 m14_1 m14_2 m14_3 m14_4 m14_5 m14_6 m14_7 m8).fst 4) ((LQ.F da db cs da db cs m14_0 m14_1 m14_2 m14_3 m14_4 m14_5 m14_6 m14_7 m8).fst 5) ((LQ.F da db cs da db cs m14_0 m14_1 m14_2 m14_3 m14_4 m14_5 m14_6 m14_7 m8).fst 6) ((LQ.F da db cs da db cs m14_0 m14_1 m14_2 m14_3 m14_4 m14_5 m14_6 m14_7 m8).fst 7) (LQ.F da db cs da db cs m14_0 m14_1 m14_2 m14_3 m14_4 m14_5 m14_6 m14_7 m8).snd da db cs [] 0 [AV.i IntKind.i64 m14_0, AV.i IntKind.i64 m14_1, AV.i IntKind.i64 m14_2, AV.i IntKind.i64 m14_3, AV.i IntKind.i64 m14_4, AV.i IntKind.i64 m14_5, AV.i IntKind.i64 m14_6, AV.i IntKind.i64 m14_7])]].length) * 24).ble 140737488355328) (some (.nrm, s45a t3 (t7 ++ [[AV.rs 3 (v45aa_0_t10 t3 t7 ((LQ.F da db cs da db cs m14_0 m14_1 m14_2 m14_3 m14_4 m14_5 m14_6 m14_7 m8).fst 0) ((LQ.F da db cs da db cs m14_0 m14_1 m14_2 m14_3 m14_4 m14_5 m14_6 m14_7 m8).fst 1) ((LQ.F da db cs da db cs m14_0 m14_1 m14_2 m14_3 m14_4 m14_5 m14_6 m14_7 m8).fst 2) ((LQ.F da db cs da db cs m14_0 m14_1 m14_2 m14_3 m14_4 m14_5 m14_6 m14_7 m8).fst 3) ((LQ.F da db cs da db cs m14_0 m14_1 m14_2 m14_3 m14_4 m14_5 m14_6 m14_7 m8).fst 4) ((LQ.F da db cs da db cs m14_0 m14_1 m14_2 m14_3 m14_4 m14_5 m14_6 m14_7 m8).fst 5) ((LQ.F da db cs da db cs m14_0 m14_1 m14_2 m14_3 m14_4 m14_5 m14_6 m14_7 m8).fst 6) ((LQ.F da db cs da db cs m14_0 m14_1 m14_2 m14_3 m14_4 m14_5 m14_6 m14_7 m8).fst 7) (LQ.F da db cs da db cs m14_0 m14_1 m14_2 m14_3 m14_4 m14_5 m14_6 m14_7 m8).snd da db cs [] 0 [AV.i IntKind.i64 m14_0, AV.i IntKind.i64 m14_1, AV.i IntKind.i64 m14_2, AV.i IntKind.i64 m14_3, AV.i IntKind.i64 m14_4, AV.i IntKind.i64 m14_5, AV.i IntKind.i64 m14_6, AV.i IntKind.i64 m14_7])]]) (fI ([v45aa_0_m14 t3 t7 ((LQ.F da db cs da db cs m14_0 m14_1 m14_2 m14_3 m14_4 m14_5 m14_6 m14_7 m8).fst 0) ((LQ.F da db cs da db cs m14_0 m14_1 m14_2 m14_3 m14_4 m14_5 m14_6 m14_7 m8).fst 1) ((LQ.F da db cs da db cs m14_0 m14_1 m14_2 m14_3 m14_4 m14_5 m14_6 m14_7 m8).fst 2) ((LQ.F da db cs da db cs m14_0 m14_1 m14_2 m14_3 m14_4 m14_5 m14_6 m14_7 m8).fst 3) ((LQ.F da db cs da db cs m14_0 m14_1 m14_2 m14_3 m14_4 m14_5 m14_6 m14_7 m8).fst 4) ((LQ.F da db cs da db cs m14_0 m14_1 m14_2 m14_3 m14_4 m14_5 m14_6 m14_7 m8).fst 5) ((LQ.F da db cs da db cs m14_0 m14_1 m14_2 m14_3 m14_4 m14_5 m14_6 m14_7 m8).fst 6) ((LQ.F da db cs da db cs m14_0 m14_1 m14_2 m14_3 m14_4 m14_5 m14_6 m14_7 m8).fst 7) (LQ.F da db cs da db cs m14_0 m14_1 m14_2 m14_3 m14_4 m14_5 m14_6 m14_7 m8).snd da db cs [] 0 [AV.i IntKind.i64 m14_0, AV.i IntKind.i64 m14_1, AV.i IntKind.i64 m14_2, AV.i IntKind.i64 m14_3, AV.i IntKind.i64 m14_4, AV.i IntKind.i64 m14_5, AV.i IntKind.i64 m14_6, AV.i IntKind.i64 m14_7]].getD 0 []) 0) (fI ([v45aa_0_m14 t3 t7 ((LQ.F da db cs da db cs m14_0 m14_1 m14_2 m14_3 m14_4 m14_5 m14_6 m14_7 m8).fst 0) ((LQ.F da db cs da db cs m14_0 m14_1 m14_2 m14_3 m14_4 m14_5 m14_6 m14_7 m8).fst 1) ((LQ.F da db cs da db cs m14_0 m14_1 m14_2 m14_3 m14_4 m14_5 m14_6 m14_7 m8).fst 2) ((LQ.F da db cs da db cs m14_0 m14_1 m14_2 m14_3 m14_4 m14_5 m14_6 m14_7 m8).fst 3) ((LQ.F da db cs da db cs m14_0 m14_1 m14_2 m14_3 m14_4 m14_5 m14_6 m14_7 m8).fst 4) ((LQ.F da db cs da db cs m14_0 m14_1 m14_2 m14_3 m14_4 m14_5 m14_6 m14_7 m8).fst 5) ((LQ.F da db cs da db cs m14_0 m14_1 m14_2 m14_3 m14_4 m14_5 m14_6 m14_7 m8).fst 6) ((LQ.F da db cs da db cs m14_0 m14_1 m14_2 m14_3 m14_4 m14_5 m14_6 m14_7 m8).fst 7) (LQ.F da db cs da db cs m14_0 m14_1 m14_2 m14_3 m14_4 m14_5 m14_6 m14_7 m8).snd da db cs [] 0 [AV.i IntKind.i64 m14_0, AV.i IntKind.i64 m14_1, AV.i IntKind.i64 m14_2, AV.i IntKind.i64 m14_3, AV.i IntKind.i64 m14_4, AV.i IntKind.i64 m14_5, AV.i IntKind.i64 m14_6, AV.i IntKind.i64 m14_7]].getD 0 []) 1) (fI ([v45aa_0_m14 t3 t7 ((LQ.F da db cs da db cs m14_0 m14_1 m14_2 m14_3 m14_4 m14_5 m14_6 m14_7 m8).fst 0) ((LQ.F da db cs da db cs m14_0 m14_1 m14_2 m14_3 m14_4 m14_5 m14_6 m14_7 m8).fst 1) ((LQ.F da db cs da db cs m14_0 m14_1 m14_2 m14_3 m14_4 m14_5 m14_6 m14_7 m8).fst 2) ((LQ.F da db cs da db cs m14_0 m14_1 m14_2 m14_3 m14_4 m14_5 m14_6 m14_7 m8).fst 3) ((LQ.F da db cs da db cs m14_0 m14_1 m14_2 m14_3 m14_4 m14_5 m14_6 m14_7 m8).fst 4) ((LQ.F da db cs da db cs m14_0 m14_1 m14_2 m14_3 m14_4 m14_5 m14_6 m14_7 m8).fst 5) ((LQ.F da db cs da db cs m14_0 m14_1 m14_2 m14_3 m14_4 m14_5 m14_6 m14_7 m8).fst 6) ((LQ.F da db cs da db cs m14_0 m14_1 m14_2 m14_3 m14_4 m14_5 m14_6 m14_7 m8).fst 7) (LQ.F da db cs da db cs m14_0 m14_1 m14_2 m14_3 m14_4 m14_5 m14_6 m14_7 m8).snd da db cs [] 0 [AV.i IntKind.i64 m14_0, AV.i IntKind.i64 m14_1, AV.i IntKind.i64 m14_2, AV.i IntKind.i64 m14_3, AV.i IntKind.i64 m14_4, AV.i IntKind.i64 m14_5, AV.i IntKind.i64 m14_6, AV.i IntKind.i64 m14_7]].getD 0 []) 2) (fI ([v45aa_0_m14 t3 t7 ((LQ.F da db cs da db cs m14_0 m14_1 m14_2 m14_3 m14_4 m14_5 m14_6 m14_7 m8).fst 0) ((LQ.F da db cs da db cs m14_0 m14_1 m14_2 m14_3 m14_4 m14_5 m14_6 m14_7 m8).fst 1) ((LQ.F da db cs da db cs m14_0 m14_1 m14_2 m14_3 m14_4 m14_5 m14_6 m14_7 m8).fst 2) ((LQ.F da db cs da db cs m14_0 m14_1 m14_2 m14_3 m14_4 m14_5 m14_6 m14_7 m8).fst 3) ((LQ.F da db cs da db cs m14_0 m14_1 m14_2 m14_3 m14_4 m14_5 m14_6 m14_7 m8).fst 4) ((LQ.F da db cs da db cs m14_0 m14_1 m14_2 m14_3 m14_4 m14_5 m14_6 m14_7 m8).fst 5) ((LQ.F da db cs da db cs m14_0 m14_1 m14_2 m14_3 m14_4 m14_5 m14_6 m14_7 m8).fst 6) ((LQ.F da db cs da db cs m14_0 m14_1 m14_2 m14_3 m14_4 m14_5 m14_6 m14_7 m8).fst 7) (LQ.F da db cs da db cs m14_0 m14_1 m14_2 m14_3 m14_4 m14_5 m14_6 m14_7 m8).snd da db cs [] 0 [AV.i IntKind.i64 m14_0, AV.i IntKind.i64 m14_1, AV.i IntKind.i64 m14_2, AV.i IntKind.i64 m14_3, AV.i IntKind.i64 m14_4, AV.i IntKind.i64 m14_5, AV.i IntKind.i64 m14_6, AV.i IntKind.i64 m14_7]].getD 0 []) 3) (fI ([v45aa_0_m14 t3 t7 ((LQ.F da db cs da db cs m14_0 m14_1 m14_2 m14_3 m14_4 m14_5 m14_6 m14_7 m8).fst 0) ((LQ.F da db cs da db cs m14_0 m14_1 m14_2 m14_3 m14_4 m14_5 m14_6 m14_7 m8).fst 1) ((LQ.F da db cs da db cs m14_0 m14_1 m14_2 m14_3 m14_4 m14_5 m14_6 m14_7 m8).fst 2) ((LQ.F da db cs da db cs m14_0 m14_1 m14_2 m14_3 m14_4 m14_5 m14_6 m14_7 m8).fst 3) ((LQ.F da db cs da db cs m14_0 m14_1 m14_2 m14_3 m14_4 m14_5 m14_6 m14_7 m8).fst 4) ((LQ.F da db cs da db cs m14_0 m14_1 m14_2 m14_3 m14_4 m14_5 m14_6 m14_7 m8).fst 5) ((LQ.F da db cs da db cs m14_0 m14_1 m14_2 m14_3 m14_4 m14_5 m14_6 m14_7 m8).fst 6) ((LQ.F da db cs da db cs m14_0 m14_1 m14_2 m14_3 m14_4 m14_5 m14_6 m14_7 m8).fst 7) (LQ.F da db cs da db cs m14_0 m14_1 m14_2 m14_3 m14_4 m14_5 m14_6 m14_7 m8).snd da db cs [] 0 [AV.i IntKind.i64 m14_0, AV.i IntKind.i64 m14_1, AV.i IntKind.i64 m14_2, AV.i IntKind.i64 m14_3, AV.i IntKind.i64 m14_4, AV.i IntKind.i64 m14_5, AV.i IntKind.i64 m14_6, AV.i IntKind.i64 m14_7]].getD 0 []) 4) (fI ([v45aa_0_m14 t3 t7 ((LQ.F da db cs da db cs m14_0 m14_1 m14_2 m14_3 m14_4 m14_5 m14_6 m14_7 m8).fst 0) ((LQ.F da db cs da db cs m14_0 m14_1 m14_2 m14_3 m14_4 m14_5 m14_6 m14_7 m8).fst 1) ((LQ.F da db cs da db cs m14_0 m14_1 m14_2 m14_3 m14_4 m14_5 m14_6 m14_7 m8).fst 2) ((LQ.F da db cs da db cs m14_0 m14_1 m14_2 m14_3 m14_4 m14_5 m14_6 m14_7 m8).fst 3) ((LQ.F da db cs da db cs m14_0 m14_1 m14_2 m14_3 m14_4 m14_5 m14_6 m14_7 m8).fst 4) ((LQ.F da db cs da db cs m14_0 m14_1 m14_2 m14_3 m14_4 m14_5 m14_6 m14_7 m8).fst 5) ((LQ.F da db cs da db cs m14_0 m14_1 m14_2 m14_3 m14_4 m14_5 m14_6 m14_7 m8).fst 6) ((LQ.F da db cs da db cs m14_0 m14_1 m14_2 m14_3 m14_4 m14_5 m14_6 m14_7 m8).fst 7) (LQ.F da db cs da db cs m14_0 m14_1 m14_2 m14_3 m14_4 m14_5 m14_6 m14_7 m8).snd da db cs [] 0 [AV.i IntKind.i64 m14_0, AV.i IntKind.i64 m14_1, AV.i IntKind.i64 m14_2, AV.i IntKind.i64 m14_3, AV.i IntKind.i64 m14_4, AV.i IntKind.i64 m14_5, AV.i IntKind.i64 m14_6, AV.i IntKind.i64 m14_7]].getD 0 []) 5) (fI ([v45aa_0_m14 t3 t7 ((LQ.F da db cs da db cs m14_0 m14_1 m14_2 m14_3 m14_4 m14_5 m14_6 m14_7 m8).fst 0) ((LQ.F da db cs da db cs m14_0 m14_1 m14_2 m14_3 m14_4 m14_5 m14_6 m14_7 m8).fst 1) ((LQ.F da db cs da db cs m14_0 m14_1 m14_2 m14_3 m14_4 m14_5 m14_6 m14_7 m8).fst 2) ((LQ.F da db cs da db cs m14_0 m14_1 m14_2 m14_3 m14_4 m14_5 m14_6 m14_7 m8).fst 3) ((LQ.F da db cs da db cs m14_0 m14_1 m14_2 m14_3 m14_4 m14_5 m14_6 m14_7 m8).fst 4) ((LQ.F da db cs da db cs m14_0 m14_1 m14_2 m14_3 m14_4 m14_5 m14_6 m14_7 m8).fst 5) ((LQ.F da db cs da db cs m14_0 m14_1 m14_2 m14_3 m14_4 m14_5 m14_6 m14_7 m8).fst 6) ((LQ.F da db cs da db cs m14_0 m14_1 m14_2 m14_3 m14_4 m14_5 m14_6 m14_7 m8).fst 7) (LQ.F da db cs da db cs m14_0 m14_1 m14_2 m14_3 m14_4 m14_5 m14_6 m14_7 m8).snd da db cs [] 0 [AV.i IntKind.i64 m14_0, AV.i IntKind.i64 m14_1, AV.i IntKind.i64 m14_2, AV.i IntKind.i64 m14_3, AV.i IntKind.i64 m14_4, AV.i IntKind.i64 m14_5, AV.i IntKind.i64 m14_6, AV.i IntKind.i64 m14_7]].getD 0 []) 6) (fI ([v45aa_0_m14 t3 t7 ((LQ.F da db cs da db cs m14_0 m14_1 m14_2 m14_3 m14_4 m14_5 m14_6 m14_7 m8).fst 0) ((LQ.F da db cs da db cs m14_0 m14_1 m14_2 m14_3 m14_4 m14_5 m14_6 m14_7 m8).fst 1) ((LQ.F da db cs da db cs m14_0 m14_1 m14_2 m14_3 m14_4 m14_5 m14_6 m14_7 m8).fst 2) ((LQ.F da db cs da db cs m14_0 m14_1 m14_2 m14_3 m14_4 m14_5 m14_6 m14_7 m8).fst 3) ((LQ.F da db cs da db cs m14_0 m14_1 m14_2 m14_3 m14_4 m14_5 m14_6 m14_7 m8).fst 4) ((LQ.F da db cs da db cs m14_0 m14_1 m14_2 m14_3 m14_4 m14_5 m14_6 m14_7 m8).fst 5) ((LQ.F da db cs da db cs m14_0 m14_1 m14_2 m14_3 m14_4 m14_5 m14_6 m14_7 m8).fst 6) ((LQ.F da db cs da db cs m14_0 m14_1 m14_2 m14_3 m14_4 m14_5 m14_6 m14_7 m8).fst 7) (LQ.F da db cs da db cs m14_0 m14_1 m14_2 m14_3 m14_4 m14_5 m14_6 m14_7 m8).snd da db cs [] 0 [AV.i IntKind.i64 m14_0, AV.i IntKind.i64 m14_1, AV.i IntKind.i64 m14_2, AV.i IntKind.i64 m14_3, AV.i IntKind.i64 m14_4, AV.i IntKind.i64 m14_5, AV.i IntKind.i64 m14_6, AV.i IntKind.i64 m14_7]].getD 0 []) 7) ((LQ.F da db cs da db cs m14_0 m14_1 m14_2 m14_3 m14_4 m14_5 m14_6 m14_7 m8).snd) da db cs)) (none)) (none)) (none)) (none)) (some (.ext 0, o45a_0 t3 da db cs t7 m14_0 m14_1 m14_2 m14_3 m14_4 m14_5 m14_6 m14_7 m8)) := by kernel_rfl
theorem rnd45a (t3 : Int) (da : Int) (db : Int) (cs : List (List AV)) (x : S45a) : round Try.prog SPm (ro 45) L45 lp45a [false, true, false, true, true, true, true, true, true] [(2, none), (3, none), (5, none), (6, none), (7, some 36), (8, some 104)] 13 ((fun x => s45a t3 x.t7 x.m14_0 x.m14_1 x.m14_2 x.m14_3 x.m14_4 x.m14_5 x.m14_6 x.m14_7 x.m8 da db cs) x) = toR (fun x => s45a t3 x.t7 x.m14_0 x.m14_1 x.m14_2 x.m14_3 x.m14_4 x.m14_5 x.m14_6 x.m14_7 x.m8 da db cs) (ou45a t3 da db cs) (stp45a t3 da db cs x.t7 x.m14_0 x.m14_1 x.m14_2 x.m14_3 x.m14_4 x.m14_5 x.m14_6 x.m14_7 x.m8) := by
  refine (round45a _ _ _ _ _ _ _ _ _ _ _ _ _ _ ).trans ?_
  unfold stp45a
  simp only [toR_cond]
  rfl
theorem lok45a {st : St} {outs : List (Bool × Ex × St)} {e : Ex} {s : St} (hl : l45a st = some outs) (hch : Chosen outs e s) :
    ∃ keep nb, 0 ≤ nb ∧ LB Try.prog SPm (ro 45) L45 lp45a [false, true, false, true, true, true, true, true, true] keep nb st e s := by
  unfold l45a at hl
  split at hl
  · rename_i t3 t7 m14_0 m14_1 m14_2 m14_3 m14_4 m14_5 m14_6 m14_7 m8 da db cs hno
    cases hl
    have hno := normW_norm hno
    refine ⟨_, _, ?_, .enter hno ?_⟩
    · decide
    have main := fun y h => LB_run (x := (⟨t7, m14_0, m14_1, m14_2, m14_3, m14_4, m14_5, m14_6, m14_7, m8⟩ : S45a)) (y := y) (nb := 13) (fun y => by cases y <;> simp [ou45a]) (rnd45a t3 da db cs) h
    obtain ⟨x, hx, hg, rfl, rfl⟩ := chosen_any hch
    simp only [List.mem_cons, List.not_mem_nil, or_false] at hx
    subst hx
    exact main _ (is45a_0 t3 da db cs t7 m14_0 m14_1 m14_2 m14_3 m14_4 m14_5 m14_6 m14_7 m8 hg)
  · cases hl
theorem L45_ok (q : Pl) (c : Code) (hq : locate c45 q.reverse = some (.loop c)) (st : St) (outs : List (Bool × Ex × St)) (e : Ex) (s : St) (hl : L45 q st = some outs) (hch : Chosen outs e s) :
    ∃ keep nb, 0 ≤ nb ∧ LB Try.prog SPm (ro 45) L45 c q keep nb st e s := by
  unfold L45 at hl
  split at hl
  · have : locate c45 ([false, true, false, true, true, false, false, true, false, false, true, false, true, true, true, true, true, true] : Pl).reverse = some (.loop lp45aa) := by kernel_rfl
    rw [this] at hq
    cases hq
    exact lok45aa hl hch
  · have : locate c45 ([false, true, false, true, true, true, true, true, true] : Pl).reverse = some (.loop lp45a) := by kernel_rfl
    rw [this] at hq
    cases hq
    exact lok45a hl hch
  · cases hl
theorem lok45 : LOK Try.prog SPm (ro 45) L45 0 false c45 [] :=
  lok_lo L45_ok c45 [] false (locate_nil _) (by kernel_rfl)
noncomputable def t45 (da db : Int) (cs : List (List AV)) : Tr ((List (List AV)) × (Int)) :=
  .cn (g24 da db cs) (.cn (w24_0 da db cs != 0) (.lf ([], w24_0 da db cs)) (.cn (g77 da db cs) (.cn (i45a_0 0 da db cs [] (w77_0 da db cs) (w77_1 da db cs) (w77_2 da db cs) (w77_3 da db cs) (w77_4 da db cs) (w77_5 da db cs) (w77_6 da db cs) (w77_7 da db cs) []) (.lf (v45a_0_t7 0 da db cs [] (w77_0 da db cs) (w77_1 da db cs) (w77_2 da db cs) (w77_3 da db cs) (w77_4 da db cs) (w77_5 da db cs) (w77_6 da db cs) (w77_7 da db cs) [], 0)) (.nn)) (.nn))) (.nn)
noncomputable def g45 (da db : Int) (cs : List (List AV)) : Bool := (t45 da db cs).g
noncomputable def w45_0 (da db : Int) (cs : List (List AV)) : List (List AV) := (t45 da db cs).val.1
noncomputable def w45_1 (da db : Int) (cs : List (List AV)) : Int := (t45 da db cs).val.2
noncomputable def a45 (da db : Int) (cs : List (List AV)) : Tr AV :=
  .cn (g24 da db cs) (.cn (w24_0 da db cs != 0) (.lf (.tup [.nl, .i .i64 (w24_0 da db cs)])) (.cn (g77 da db cs) (.cn (i45a_0 0 da db cs [] (w77_0 da db cs) (w77_1 da db cs) (w77_2 da db cs) (w77_3 da db cs) (w77_4 da db cs) (w77_5 da db cs) (w77_6 da db cs) (w77_7 da db cs) []) (.lf (.tup [.rs 36 (v45a_0_t7 0 da db cs [] (w77_0 da db cs) (w77_1 da db cs) (w77_2 da db cs) (w77_3 da db cs) (w77_4 da db cs) (w77_5 da db cs) (w77_6 da db cs) (w77_7 da db cs) []), .i .i64 0])) (.nn)) (.nn))) (.nn)
theorem eq45 (da db : Int) (cs : List (List AV)) : evF Try.prog SPm (ro 45) L45 Try.f45 [.agg [.i .i64 da, .i .i64 db, .rs 64 cs]] = (a45 da db cs).opt id := by kernel_rfl
theorem wk45 (da db : Int) (cs : List (List AV)) : (a45 da db cs).map (wkV [some 36, none]) = (t45 da db cs).map (fun (x : (List (List AV)) × (Int)) => (.tup [.rs 36 x.1, .i .i64 x.2] : AV)) := by kernel_rfl
theorem con45 (da db : Int) (cs : List (List AV)) (h : g45 da db cs = true) : Con Try.prog 45 [.agg [.i .i64 da, .i .i64 db, .rs 64 cs]] [] (.tup [.rs 36 (w45_0 da db cs), .i .i64 (w45_1 da db cs)]) [] := by
  obtain ⟨v, h1, h2⟩ := Tr.soundW (eq45 da db cs) (wk45 da db cs) h
  have := (con_of SPm_ok mixed Try.func45 (c := c45) rfl (names 45 _ Try.func45) lok45 h1).wk [some 36, none]
  rw [h2] at this
  exact this
noncomputable def e45 (args : List AV) (rows : List Blk) : Option (Bool × AV × List Blk) := match args, rows with
  | [.agg [.i .i64 da, .i .i64 db, .rs 64 cs]], [] => some (g45 da db cs, .tup [.rs 36 (w45_0 da db cs), .i .i64 (w45_1 da db cs)], [])
  | _, _ => none
theorem e45_ok (args : List AV) (rows : List Blk) (pre : Bool) (v : AV) (rows' : List Blk) (h : e45 args rows = some (pre, v, rows')) (hp : pre = true) : Con Try.prog 45 args rows v rows' := by
  unfold e45 at h
  split at h
  · cases h; exact con45 _ _ _ hp
  · cases h
-- SPEC 45
end Go.Proofs.Ytgifjphinkbcaaa

set_option maxRecDepth 100000
set_option linter.unusedVariables false
namespace Go.Proofs.Ytgifjphinkbcaaa
open Go Go.Ev
/-! ### Plan -/
def repL (s : Nat → Int) : Nat → List Nat
  | 0 => []
  | k + 1 => repL s k ++ List.replicate (s k).toNat k
section
variable {da db : Int} {cs : List (List AV)}
theorem repL_mem {s : Nat → Int} : ∀ {k c : Nat}, c ∈ repL s k → c < k ∧ 0 < s c
  | 0, c, h => by cases h
  | k + 1, c, h => by
    rcases List.mem_append.1 h with h | h
    · have := repL_mem h; exact ⟨by omega, this.2⟩
    · obtain ⟨h1, h2⟩ := List.mem_replicate.1 h
      subst h2
      exact ⟨by omega, by omega⟩
theorem repL_count {s : Nat → Int} (j : Nat) : ∀ {k : Nat}, (repL s k).count j = if j < k then (s j).toNat else 0
  | 0 => rfl
  | k + 1 => by
    show (repL s k ++ List.replicate (s k).toNat k).count j = _
    rw [List.count_append, repL_count j (k := k), List.count_replicate]
    by_cases e : j = k
    · subst e
      rw [if_neg (show ¬ j < j by omega), if_pos (show j < j + 1 by omega)]
      simp
    · have : (k == j) = false := by simpa using fun e' => e e'.symm
      rw [this]
      by_cases h' : j < k
      · rw [if_pos h', if_pos (show j < k + 1 by omega)]; simp
      · rw [if_neg h', if_neg (show ¬ j < k + 1 by omega)]; simp
theorem szR_rep (n c : Nat) : szR db cs (List.replicate n c) = (n : Int) * (ln cs c + db) := by
  induction n with
  | zero => simp [szR]
  | succ n ih =>
    rw [List.replicate_succ]
    show ln cs c + db + szR db cs (List.replicate n c) = _
    rw [ih, Int.natCast_succ, Int.add_mul, Int.one_mul]
    omega
theorem repL_sz {s : Nat → Int} : ∀ {k : Nat}, (∀ i, i < k → 0 ≤ s i) → szR db cs (repL s k) = DD db cs s k
  | 0, _ => rfl
  | k + 1, h => by
    show szR db cs (repL s k ++ _) = DD db cs s k + s k * (ln cs k + db)
    have hk := h k (by omega)
    rw [szR_app, repL_sz fun i hi => h i (by omega), szR_rep, show (((s k).toNat : Nat) : Int) = s k by omega]
theorem repL_len {s : Nat → Int} : ∀ {k : Nat}, (∀ i, i < k → 0 ≤ s i) → ((repL s k).length : Int) = TT s k
  | 0, _ => rfl
  | k + 1, h => by
    show ((repL s k ++ List.replicate (s k).toNat k).length : Int) = TT s k + s k
    have hk := h k (by omega)
    rw [List.length_append, List.length_replicate, Int.natCast_add, repL_len fun i hi => h i (by omega)]
    omega
theorem repL_up {s : Nat → Int} : ∀ k, (repL s k).Pairwise (· ≤ ·)
  | 0 => List.Pairwise.nil
  | k + 1 => by
    refine List.pairwise_append.2 ⟨repL_up k, ?_, fun a ha b hb => ?_⟩
    · rw [List.pairwise_replicate]
      exact .inr (Nat.le_refl _)
    · have := (repL_mem ha).1
      have := List.eq_of_mem_replicate hb
      omega
theorem repL_RowP (hF : RFine da db cs) {s : Nat → Int} (h1 : ∀ i, i < cs.length → 0 ≤ s i) (h2 : ∀ i, cs.length ≤ i → i < 8 → s i = 0) (h3 : DD db cs s cs.length ≤ da + db) (h4 : ∃ i, i < cs.length ∧ 0 < s i) : RowP da db cs (repL s 8) := by
  have hl := hF.l
  have h8 : ∀ i, i < 8 → 0 ≤ s i := fun i hi => by
    rcases Nat.lt_or_ge i cs.length with h | h
    · exact h1 i h
    · rw [h2 i h hi]; exact Int.le_refl _
  have hDD : ∀ k, cs.length ≤ k → k ≤ 8 → DD db cs s k = DD db cs s cs.length := by
    intro k hk hk8
    induction k with
    | zero =>
      have : cs.length = 0 := by omega
      rw [this]
    | succ k ih =>
      rcases Nat.eq_or_lt_of_le hk with e | e
      · rw [e]
      · show DD db cs s k + s k * _ = _
        rw [ih (by omega) (by omega), h2 k (by omega) (by omega), Int.zero_mul, Int.add_zero]
  refine ⟨fun c hc => ?_, fun k hk0 hk => ?_, ?_, ?_⟩
  · obtain ⟨a, b⟩ := repL_mem hc
    rcases Nat.lt_or_ge c cs.length with h | h
    · exact h
    · rw [h2 c h a] at b; omega
  · have := List.pairwise_iff_getElem.1 (repL_up (s := s) 8) (k - 1) k (by omega) hk (by omega)
    rw [List.getD_eq_getElem?_getD, List.getD_eq_getElem?_getD, List.getElem?_eq_getElem (show k - 1 < _ by omega), List.getElem?_eq_getElem hk]
    exact this
  · obtain ⟨i, hi, h⟩ := h4
    intro e
    have := repL_count (s := s) i (k := 8)
    rw [e, if_pos (by omega)] at this
    simp at this
    omega
  · rw [repL_sz h8, hDD 8 hl (Nat.le_refl _)]
    exact h3
theorem rowAV_rep (n c : Nat) : rowAV (List.replicate n c) = List.replicate n [.i .i64 (c : Int)] := by simp [rowAV]
theorem take_run (p q : Nat → Int) (hp : ∀ i, i < 8 → 0 ≤ p i ∧ p i ≤ 12) (hq : ∀ i, i < 8 → 0 ≤ q i ∧ q i ≤ 12) (t3 : Int) (t7 : List (List AV)) (m8 : List (AV × AV)) (da db : Int) (cs : List (List AV)) :
    ∃ a, r45aa t3 t7 (p 0) (p 1) (p 2) (p 3) (p 4) (p 5) (p 6) (p 7) m8 da db cs [] 0 (row8 q) = some (.x0 (rowAV (repL p 8)) a (row8 fun i => q i - p i)) := by
  have run := run_for (S := Unit) (step := fun x : S45aa => stp45aa t3 t7 (p 0) (p 1) (p 2) (p 3) (p 4) (p 5) (p 6) (p 7) m8 da db cs x.t10 x.t31 x.m14) 8 (fun j _ => (⟨rowAV (repL p j), (j : Int), row8 fun i => if i < j then q i - p i else q i⟩ : S45aa)) (fun _ _ => True) (fun _ _ (y : T45aa) => ∃ a, y = .x0 (rowAV (repL p 8)) a (row8 fun i => q i - p i))
    (fun j _ hj _ => by
      left
      refine ⟨(), ?_, trivial, fun y hy => hy⟩
      have hd : decide ((j : Int) < 8) = true := decide_eq_true (by omega)
      have hi : intsOf IntKind.i64 [AV.i IntKind.i64 (p 0), AV.i IntKind.i64 (p 1), AV.i IntKind.i64 (p 2), AV.i IntKind.i64 (p 3), AV.i IntKind.i64 (p 4), AV.i IntKind.i64 (p 5), AV.i IntKind.i64 (p 6), AV.i IntKind.i64 (p 7)] = true := rfl
      have hg : toI ([AV.i IntKind.i64 (p 0), AV.i IntKind.i64 (p 1), AV.i IntKind.i64 (p 2), AV.i IntKind.i64 (p 3), AV.i IntKind.i64 (p 4), AV.i IntKind.i64 (p 5), AV.i IntKind.i64 (p 6), AV.i IntKind.i64 (p 7)].getD ((j : Nat) : Int).toNat AV.u) = p j := by
        have := q_get p hj
        rw [Nat.zero_add, Nat.mul_one] at this
        exact this
      have h1 := hp j hj
      have h2 := hq j hj
      have hlen : ((rowAV (repL p j)).length : Int) ≤ 96 := by
        rw [rowAV_length, repL_len fun i hi => (hp i (by omega)).1]
        have key : ∀ k, k ≤ 8 → TT p k ≤ 12 * (k : Int) := by
          intro k
          induction k with
          | zero => intro _; show (0 : Int) ≤ _; omega
          | succ k ih =>
            intro hk
            have := ih (by omega)
            have := hp k (by omega)
            show TT p k + p k ≤ _
            omega
        have := key j (by omega)
        omega
      obtain ⟨v1, v2⟩ := rep_val (j : Int) (n := (p j).toNat) (by omega)
      rw [show (((p j).toNat : Nat) : Int) = p j by omega] at v1 v2
      have l1 : ((rowAV (repL p j)).length + (List.replicate (p j).toNat [AV.i IntKind.i64 (j : Int)]).length).ble 9223372036854775807 = true := by
        rw [List.length_replicate, Nat.ble_eq]; omega
      have l2 : (((rowAV (repL p j)).length + (List.replicate (p j).toNat [AV.i IntKind.i64 (j : Int)]).length) * 8).ble 140737488355328 = true := by
        rw [List.length_replicate, Nat.ble_eq]; omega
      have l3 : rowAV (repL p j) ++ List.replicate (p j).toNat [AV.i IntKind.i64 (j : Int)] = rowAV (repL p (j + 1)) := by
        show _ = rowAV (repL p j ++ List.replicate (p j).toNat j)
        rw [rowAV_app, rowAV_rep]
      have hx : toI ((([row8 fun i => if i < j then q i - p i else q i] : List (List AV)).getD 0 []).getD (0 + ((j : Nat) : Int).toNat * 1) AV.u) = q j := by
        rw [Nat.zero_add, Nat.mul_one, Int.toNat_natCast]
        show fI (row8 fun i => if i < j then q i - p i else q i) j = q j
        rw [row8_get hj, if_neg (by omega)]
      have hs : setCs (([row8 fun i => if i < j then q i - p i else q i] : List (List AV)).getD 0 []) (0 + ((j : Nat) : Int).toNat * 1) [AV.i IntKind.i64 (IntKind.i64.wrap (q j - p j))] = row8 fun i => if i < j + 1 then q i - p i else q i := by
        rw [Nat.zero_add, Nat.mul_one, Int.toNat_natCast, wrap64 (by omega) (by omega)]
        show (row8 fun i => if i < j then q i - p i else q i).set j (.i .i64 (q j - p j)) = _
        rw [row8_set hj]
        refine row8_congr fun i _ => ?_
        unfold upd
        show (if i = j then q j - p j else if i < j then q i - p i else q i) = if i < j + 1 then q i - p i else q i
        by_cases h : i = j
        · subst h
          rw [if_pos rfl, if_pos (show i < i + 1 by omega)]
        · rw [if_neg h]
          by_cases h' : i < j
          · rw [if_pos h', if_pos (show i < j + 1 by omega)]
          · rw [if_neg h', if_neg (show ¬ i < j + 1 by omega)]
      unfold stp45aa
      dsimp only
      rw [hd, hi, inb_true hj, show [AV.i IntKind.i64 (p 0), AV.i IntKind.i64 (p 1), AV.i IntKind.i64 (p 2), AV.i IntKind.i64 (p 3), AV.i IntKind.i64 (p 4), AV.i IntKind.i64 (p 5), AV.i IntKind.i64 (p 6), AV.i IntKind.i64 (p 7)].length = 8 from rfl, inb_true hj, cts104 hj, hg, v1, v2, l1, l2, l3, hx, hs, wrap_succ (by omega)]
      rfl)
    (fun _ _ => by
      refine ⟨.x0 (rowAV (repL p 8)) 8 (row8 fun i => q i - p i), ?_, _, rfl⟩
      have e : (row8 fun i => if i < 8 then q i - p i else q i) = row8 fun i => q i - p i := row8_congr fun i hi => if_pos hi
      unfold stp45aa
      dsimp only
      rw [e]
      rfl)
    0 () (by omega) trivial
  obtain ⟨y, h1, a, h2⟩ := run
  refine ⟨a, ?_⟩
  rw [← h2, ← h1]
  unfold r45aa
  congr 2
/-- What Plan gives. -/
structure PlanP (da db : Int) (cs : List (List AV)) (rs : List (List Nat)) : Prop where
  row : ∀ i, i < rs.length → RowP da db cs (rs.getD i [])
  cnt : ∀ j, j < cs.length → cntR rs j = mn cs j
  len : rs.length = mq da db cs (mn cs)
theorem plan_run (hF : RFine da db cs) : ∃ rs, PlanP da db cs rs ∧ rs.length ≤ 12 ∧ ∃ (a : Nat → Int) (m' : Mp), r45a 0 da db cs [] (mw cs 0) (mw cs 1) (mw cs 2) (mw cs 3) (mw cs 4) (mw cs 5) (mw cs 6) (mw cs 7) [] = some (.x0 (plAV rs) (a 0) (a 1) (a 2) (a 3) (a 4) (a 5) (a 6) (a 7) m') := by
  have hl := hF.l
  have hs12 := hF.s
  have hmn : ∀ i, i < cs.length → 0 ≤ mn cs i ∧ mn cs i ≤ 12 := fun i hi => by
    have := hF.c i hi
    unfold okCut at this
    omega
  have hsm : ∀ k, k ≤ cs.length → TT (mn cs) k = smn cs k := by
    intro k
    induction k with
    | zero => intro _; rfl
    | succ k ih => intro hk; show TT (mn cs) k + mn cs k = smn cs k + mn cs k; rw [ih (by omega)]
  have hTT : TT (mw cs) cs.length ≤ 12 := by
    rw [TT_congr (q := mw cs) (r := mn cs) fun i hi => if_pos hi, hsm _ (Nat.le_refl _)]
    exact hs12
  have hv0 : VOK cs (mw cs) := by
    refine ⟨fun i hi => ?_, fun i h1 h2 => if_neg (by omega), hTT⟩
    unfold mw
    split
    · rename_i h; exact hmn i h
    · omega
  have run := run_while (S := List (List Nat) × (Nat → Int) × Mp) (step := fun x : S45a => stp45a 0 da db cs x.t7 x.m14_0 x.m14_1 x.m14_2 x.m14_3 x.m14_4 x.m14_5 x.m14_6 x.m14_7 x.m8) (fun s => mq da db cs s.2.1) (fun s => (⟨plAV s.1, s.2.1 0, s.2.1 1, s.2.1 2, s.2.1 3, s.2.1 4, s.2.1 5, s.2.1 6, s.2.1 7, s.2.2⟩ : S45a))
    (fun s => VOK cs s.2.1 ∧ MOK8 da db cs s.2.2 ∧ (∀ i, i < s.1.length → RowP da db cs (s.1.getD i [])) ∧ (∀ j, j < cs.length → cntR s.1 j + s.2.1 j = mn cs j) ∧ s.1.length + mq da db cs s.2.1 = mq da db cs (mn cs))
    (fun _ y => ∃ rs, PlanP da db cs rs ∧ ∃ (a : Nat → Int) (m' : Mp), y = .x0 (plAV rs) (a 0) (a 1) (a 2) (a 3) (a 4) (a 5) (a 6) (a 7) m')
    (fun s hs => by
      obtain ⟨rs, q, m⟩ := s
      obtain ⟨i1, i2, i3, i4, i5⟩ := hs
      dsimp only at i1 i2 i3 i4 i5 ⊢
      have hmq12 : mq da db cs (mn cs) ≤ 12 := by
        have := (mq_ok hF (q := mn cs) fun i hi => (hmn i hi).1).2.2
        rw [hsm _ (Nat.le_refl _)] at this
        omega
      by_cases hz : ∃ i, i < cs.length ∧ 0 < q i
      · left
        obtain ⟨k, hk, hqk⟩ := hz
        have hne : (!(q 0 == 0 && (q 1 == 0 && (q 2 == 0 && (q 3 == 0 && (q 4 == 0 && (q 5 == 0 && (q 6 == 0 && q 7 == 0)))))))) = true := by
          rw [Bool.not_eq_true', ← Bool.not_eq_true]
          intro h
          simp only [Bool.and_eq_true, beq_iff_eq] at h
          obtain ⟨a0, a1, a2, a3, a4, a5, a6, a7⟩ := h
          have k8 : k < 8 := by omega
          have e : k = 0 ∨ k = 1 ∨ k = 2 ∨ k = 3 ∨ k = 4 ∨ k = 5 ∨ k = 6 ∨ k = 7 := by omega
          rcases e with rfl | rfl | rfl | rfl | rfl | rfl | rfl | rfl <;> omega
        have hT := i1.t
        obtain ⟨g1, g2, g3⟩ := lqE_ok hF q m i1 (by omega) i2
        have g1 : LQ.G da db cs da db cs (q 0) (q 1) (q 2) (q 3) (q 4) (q 5) (q 6) (q 7) m = true := g1
        have g3 : MOK8 da db cs (LQ.F da db cs da db cs (q 0) (q 1) (q 2) (q 3) (q 4) (q 5) (q 6) (q 7) m).2 := g3
        have g2 : Good da db cs q (LQ.F da db cs da db cs (q 0) (q 1) (q 2) (q 3) (q 4) (q 5) (q 6) (q 7) m).1 := g2
        obtain ⟨a1, a2, a3, a4, a5⟩ := g2.p ⟨k, hk, hqk⟩
        generalize hX : LQ.F da db cs da db cs (q 0) (q 1) (q 2) (q 3) (q 4) (q 5) (q 6) (q 7) m = X at *
        have hpb : ∀ i, i < 8 → 0 ≤ X.1 i ∧ X.1 i ≤ 12 := fun i hi => by
          rcases Nat.lt_or_ge i cs.length with h | h
          · have := a1 i h
            have := i1.b i hi
            omega
          · rw [a2 i h hi]; omega
        obtain ⟨a, ht⟩ := take_run X.1 q hpb i1.b 0 (plAV rs) X.2 da db cs
        have ht : r45aa 0 (plAV rs) (X.1 0) (X.1 1) (X.1 2) (X.1 3) (X.1 4) (X.1 5) (X.1 6) (X.1 7) X.2 da db cs [] 0 [AV.i IntKind.i64 (q 0), AV.i IntKind.i64 (q 1), AV.i IntKind.i64 (q 2), AV.i IntKind.i64 (q 3), AV.i IntKind.i64 (q 4), AV.i IntKind.i64 (q 5), AV.i IntKind.i64 (q 6), AV.i IntKind.i64 (q 7)] = _ := ht
        have hrow := repL_RowP hF (fun i hi => (a1 i hi).1) a2 a3 a4
        have happ : plAV rs ++ [[AV.rs 3 (rowAV (repL X.1 8))]] = plAV (rs ++ [repL X.1 8]) := by
          unfold plAV
          rw [List.map_append]; rfl
        have hl1 : ∀ z : List AV, ((plAV rs).length + [z].length).ble 9223372036854775807 = true := fun z => by
          rw [plAV_len, Nat.ble_eq]; show rs.length + 1 ≤ _; omega
        have hl2 : ∀ z : List AV, (((plAV rs).length + [z].length) * 24).ble 140737488355328 = true := fun z => by
          rw [plAV_len, Nat.ble_eq]; show (rs.length + 1) * 24 ≤ _; omega
        refine ⟨(rs ++ [repL X.1 8], fun i => q i - X.1 i, X.2), ?_, ⟨⟨fun i hi => ?_, fun i h1 h2 => ?_, ?_⟩, g3, fun i hi => ?_, fun j hj => ?_, ?_⟩, ?_, fun y hy => hy⟩
        · unfold stp45a
          dsimp only
          rw [hne, hX, g1]
          unfold i45aa_0 v45aa_0_t10 v45aa_0_m14
          rw [ht]
          dsimp only
          rw [hl1, hl2, happ]
          rfl
        · have h1 := i1.b i hi
          have h2 := hpb i hi
          show 0 ≤ q i - X.1 i ∧ q i - X.1 i ≤ 12
          rcases Nat.lt_or_ge i cs.length with h | h
          · have := a1 i h
            omega
          · have e1 := a2 i h hi
            have e2 := i1.z i h hi
            omega
        · have e1 := a2 i h1 h2
          have e2 := i1.z i h1 h2
          show q i - X.1 i = 0
          omega
        · have e := TT_sub (q := q) (r := X.1) (n := cs.length)
          have := (TT_nn (q := X.1) (n := cs.length) fun i hi => (a1 i hi).1).1
          show TT (fun i => q i - X.1 i) cs.length ≤ 12
          omega
        · rcases Nat.lt_or_ge i rs.length with h | h
          · rw [List.getD_eq_getElem?_getD, List.getElem?_append_left h, ← List.getD_eq_getElem?_getD]
            exact i3 i h
          · have hi : i < (rs ++ [repL X.1 8]).length := hi
            rw [List.length_append, List.length_singleton] at hi
            have e : i = rs.length := by omega
            subst e
            rw [List.getD_eq_getElem?_getD, List.getElem?_append_right (Nat.le_refl _), Nat.sub_self]
            exact hrow
        · show cntR (rs ++ [repL X.1 8]) j + (q j - X.1 j) = mn cs j
          rw [cntR_snoc, repL_count, if_pos (by omega)]
          have := i4 j hj
          have := a1 j hj
          omega
        · show (rs ++ [repL X.1 8]).length + mq da db cs (fun i => q i - X.1 i) = _
          rw [List.length_append, List.length_singleton]
          omega
        · show mq da db cs (fun i => q i - X.1 i) < mq da db cs q
          omega
      · right
        have hq0 : ∀ i, i < cs.length → q i = 0 := fun i hi => by
          have := (i1.b i (by omega)).1
          rcases Int.lt_or_le 0 (q i) with h | h
          · exact absurd ⟨i, hi, h⟩ hz
          · omega
        have hq8 : ∀ i, i < 8 → q i = 0 := fun i hi => by
          rcases Nat.lt_or_ge i cs.length with h | h
          · exact hq0 i h
          · exact i1.z i h hi
        have hm0 := mq_zero hF hq0
        refine ⟨.x0 (plAV rs) (q 0) (q 1) (q 2) (q 3) (q 4) (q 5) (q 6) (q 7) m, ?_, rs, ⟨i3, fun j hj => ?_, by omega⟩, q, m, rfl⟩
        · unfold stp45a
          rw [hq8 0 (by omega), hq8 1 (by omega), hq8 2 (by omega), hq8 3 (by omega), hq8 4 (by omega), hq8 5 (by omega), hq8 6 (by omega), hq8 7 (by omega)]
          rfl
        · have := i4 j hj
          have := hq0 j hj
          omega)
    (([] : List (List Nat)), mw cs, ([] : Mp)) ⟨hv0, fun q v _ h => (by cases h), fun i hi => (by cases hi), fun j hj => by
      show (0 : Int) + mw cs j = mn cs j
      unfold mw
      rw [if_pos hj, Int.zero_add], by
      show 0 + mq da db cs (mw cs) = _
      rw [Nat.zero_add]
      exact mq_congr hF (fun i hi => (hv0.b i (by omega)).1) fun i hi => if_pos hi⟩
  obtain ⟨y, h1, rs, h2, a, m', h3⟩ := run
  refine ⟨rs, h2, ?_, a, m', by rw [← h3]; exact h1⟩
  have := (mq_ok hF (q := mn cs) fun i hi => (hmn i hi).1).2.2
  rw [hsm _ (Nat.le_refl _)] at this
  have := h2.len
  omega
theorem plan_val (da db : Int) (cs : List (List AV)) : g45 da db cs = true ∧ w45_1 da db cs = w24_0 da db cs ∧ (w24_0 da db cs ≠ 0 → w45_0 da db cs = []) ∧ (w24_0 da db cs = 0 → RFine da db cs ∧ ∃ rs, PlanP da db cs rs ∧ rs.length ≤ 12 ∧ w45_0 da db cs = plAV rs) := by
  obtain ⟨r1, _, _, r4⟩ := rods_eq da db cs
  by_cases h : w24_0 da db cs = 0
  · have hF := r4 h
    obtain ⟨rs, p1, p2, a, m', p3⟩ := plan_run hF
    obtain ⟨v0, v1, v2, v3, v4, v5, v6, v7, v8⟩ := wanted_val (da := da) (db := db) hF.l
    have e : (w24_0 da db cs != 0) = false := by rw [h]; rfl
    have hw : w45_0 da db cs = plAV rs ∧ g45 da db cs = true ∧ w45_1 da db cs = 0 := by
      unfold w45_0 g45 w45_1 t45
      rw [r1, e, v0, v1, v2, v3, v4, v5, v6, v7, v8]
      unfold i45a_0 v45a_0_t7
      rw [p3]
      exact ⟨rfl, rfl, rfl⟩
    exact ⟨hw.2.1, by rw [hw.2.2, h], fun h' => absurd h h', fun _ => ⟨hF, rs, p1, p2, hw.1⟩⟩
  · have e : (w24_0 da db cs != 0) = true := by rw [bne_iff_ne]; exact h
    have hw : w45_0 da db cs = [] ∧ g45 da db cs = true ∧ w45_1 da db cs = w24_0 da db cs := by
      unfold w45_0 g45 w45_1 t45
      rw [r1, e]
      exact ⟨rfl, rfl, rfl⟩
    exact ⟨hw.2.1, hw.2.2, fun _ => hw.1, fun h' => absurd h' h⟩
end
end Go.Proofs.Ytgifjphinkbcaaa
