/-
  The evaluator, its soundness, and the functions that several laws reach: what they compute, for all arguments; no conditions.
-/
import Derived.Test.YtoglnllbopcejaaPc
import Derived.Test.YtoglnllbopcejaaPd
import Derived.WalkKit
import Derived.Lib.Walk
import Derived.Lib.AppendZerosOnto
import Derived.Lib.Overlaps
import Derived.Shelf.RegionOpenPlain
import Derived.Laws.CopyRow
set_option linter.unusedVariables false
set_option maxRecDepth 100000
set_option linter.unusedVariables false
namespace Go.Ev
open Go
theorem run_find {σ τ : Type} {step : σ → Lp σ τ} {n : Nat} (emb : Nat → σ) (c : Nat → Bool) (outA : Nat → τ) (outB : τ)
    (hgo : ∀ k, k < n → step (emb k) = cond (c k) (.out (outA k)) (.go (emb (k + 1)))) (hend : step (emb n) = .out outB) :
    run step (emb 0) = some (cond (Go.Proofs.Ytoglnllbopcejaa.anyN c n) (outA (Go.Proofs.Ytoglnllbopcejaa.firstN c n)) outB) := by
  cases h : Go.Proofs.Ytoglnllbopcejaa.anyN c n with
  | true =>
    obtain ⟨h1, h2, h3⟩ := Go.Proofs.Ytoglnllbopcejaa.firstN_spec h
    refine run_from0 (m := Go.Proofs.Ytoglnllbopcejaa.firstN c n) emb (fun i hi => ?_) ?_
    · rw [hgo i (by omega), h3 i hi]; rfl
    · rw [hgo _ h1, h2]; rfl
  | false =>
    refine run_from0 (m := n) emb (fun i hi => ?_) hend
    rw [hgo i hi, Go.Proofs.Ytoglnllbopcejaa.anyN_false h hi]; rfl
theorem iterR_find {σ τ α : Type} {step : σ → α → Lp σ τ} (d : α) : ∀ (l : List α) (emb : Nat → σ) (c : Nat → Bool) (outA : Nat → τ)
    (_ : ∀ k, k < l.length → step (emb k) (l.getD k d) = cond (c k) (.out (outA k)) (.go (emb (k + 1)))),
    iterR step l (emb 0) = some (cond (Go.Proofs.Ytoglnllbopcejaa.anyN c l.length) (.inr (outA (Go.Proofs.Ytoglnllbopcejaa.firstN c l.length))) (.inl (emb l.length)))
  | [], emb, c, outA, h => rfl
  | a :: l, emb, c, outA, h => by
    have h0 := h 0 (by simp)
    have ih := iterR_find d l (fun k => emb (k + 1)) (fun k => c (k + 1)) (fun k => outA (k + 1)) fun k hk => h (k + 1) (by simpa using hk)
    simp only [List.getD_cons_zero] at h0
    unfold iterR
    rw [h0]
    cases hc : c 0 with
    | true => simp [Go.Proofs.Ytoglnllbopcejaa.anyN, Go.Proofs.Ytoglnllbopcejaa.firstN, hc]
    | false =>
      simp only [cond_false, List.length_cons, Go.Proofs.Ytoglnllbopcejaa.anyN, Go.Proofs.Ytoglnllbopcejaa.firstN, hc, Bool.false_or]
      exact ih
theorem wrap_pred {k : Nat} (h : k < 9223372036854775807) : IntKind.i64.wrap (((k + 1 : Nat) : Int) - 1) = (k : Int) := (wrap64 (by omega) (by omega)).trans (by omega)
end Go.Ev
namespace Go.Proofs.Ytoglnllbopcejaa
open Go Go.Ev

theorem k22 (a b c : Int) : g22 a b c = true ∧ w22_0 a b c = inB a b c := by
  unfold g22 w22_0 t22 inB
  cases decide (b ≤ a) <;> exact ⟨rfl, rfl⟩
theorem k37 (a b c : Int) : g37 a b c = true ∧ w37_0 a b c = spB a b c := by
  unfold g37 w37_0 t37 spB
  cases decide (0 ≤ a) <;> cases decide (a ≤ b) <;> exact ⟨rfl, rfl⟩
theorem k42 (a b c d u v : Int) : w42_0 a b c d u v = leftI a b c d u v := by
  unfold w42_0 t42 leftI
  rfl
theorem k55 (a b c d : Int) : w55_0 a b c d = farI a b c d := by
  unfold w55_0 t55 farI
  rfl
theorem k48 (a b : Int) : g48 a b = true ∧ w48_0 a b = cmpI a b := by
  have h61 : ∀ x, w61_0 x = false := fun x => by
    show (x != x) = false
    simp
  unfold g48 w48_0 t48 cmpI
  rw [h61, h61]
  cases decide (a < b) <;> cases decide (a > b) <;> exact ⟨rfl, rfl⟩
theorem k47 (a b : Int) : g47 a b = true ∧ w47_0 a b = cond (a != 0) a b := by
  have h : r47a 0 0 [[AV.i IntKind.i64 a], [AV.i IntKind.i64 b]] (2 : Nat) 0 = some (cond (a != 0) (.x0 a 0) (cond (b != 0) (.x0 b 1) (.x1 2))) := by
    unfold r47a
    cases h1 : a != 0 with
    | true =>
      refine run_out ?_
      show cond (a != 0) _ _ = _
      rw [h1]; rfl
    | false =>
      refine (run_go (y := ⟨1⟩) ?_).trans ?_
      · show cond (a != 0) _ _ = _
        rw [h1]; rfl
      cases h2 : b != 0 with
      | true =>
        refine run_out ?_
        show cond (b != 0) _ _ = _
        rw [h2]; rfl
      | false =>
        refine (run_go (y := ⟨2⟩) ?_).trans ?_
        · show cond (b != 0) _ _ = _
          rw [h2]; rfl
        exact run_out rfl
  have h' : TrP (fun v => v = cond (a != 0) a b) (t47 a b) := by
    unfold t47 i47a_0 i47a_1 v47a_0_t2'
    show TrP _ (.cn (match r47a 0 0 [[AV.i IntKind.i64 a], [AV.i IntKind.i64 b]] (2 : Nat) 0 with | some (.x0 _ _) => true | _ => false) (.lf (match r47a 0 0 [[AV.i IntKind.i64 a], [AV.i IntKind.i64 b]] (2 : Nat) 0 with | some (.x0 t2' _) => t2' | _ => default)) (.cn (match r47a 0 0 [[AV.i IntKind.i64 a], [AV.i IntKind.i64 b]] (2 : Nat) 0 with | some (.x1 _) => true | _ => false) _ _))
    rw [h]
    cases h1 : a != 0
    · cases h2 : b != 0
      · have : b = 0 := by simpa using h2
        subst this
        exact .f rfl (.t rfl rfl)
      · exact .t rfl rfl
    · exact .t rfl rfl
  exact h'.ok
theorem k26 (a b c d : Int) : g26 a b c d = true ∧ w26_0 a b c d = orderI a b c d := by
  unfold g26 w26_0 t26 orderI
  rw [(k48 b d).1, (k48 a c).1, (k48 b d).2, (k48 a c).2, (k47 _ _).1, (k47 _ _).2]
  exact ⟨rfl, rfl⟩
theorem k25 (a b l h c d : Int) : g25 a b l h c d = true ∧ w25_0 a b l h c d = orderI a b c d := by
  unfold g25 w25_0 t25
  rw [(k26 _ _ _ _).1, (k26 _ _ _ _).2]
  exact ⟨rfl, rfl⟩
theorem k36 (a b c d : Int) : g36 a b c d = true ∧ w36_0 a b c d = badBox a b c d := by
  unfold g36 w36_0 t36 badBox
  cases decide (a ≥ c) <;> exact ⟨rfl, rfl⟩
theorem k43 (a b c d u v : Int) : g43 a b c d u v = true ∧ w43_0 a b c d u v = inBox u v a b c d := by
  unfold g43 w43_0 t43 inBox
  cases decide (a < u) <;> cases decide (u < c) <;> cases decide (b < v) <;> exact ⟨rfl, rfl⟩
theorem k18 (n : Int) : g18 n = true ∧ w18_0 n = longB n := by
  unfold g18 w18_0 t18 longB
  cases decide (n < -9999999999) <;> exact ⟨rfl, rfl⟩
theorem k40 (u v : Int) : g40 u v = true ∧ w40_0 u v = plB u v := by
  unfold g40 w40_0 t40 plB
  rw [(k22 _ _ _).1, (k22 _ _ _).1, (k22 _ _ _).2, (k22 _ _ _).2]
  cases inB u 0 400 <;> exact ⟨rfl, rfl⟩
theorem k57 (u v : Int) : g57 u v = true ∧ w57_0 u v = !plB u v := by
  unfold g57 w57_0 t57
  rw [(k40 _ _).1, (k40 _ _).2]
  exact ⟨rfl, rfl⟩
theorem k41 (os : List (List AV)) : w41_0 os = os := rfl

theorem ge0 (n : Nat) : decide ((n : Int) ≥ 0) = true := decide_eq_true (by omega)
theorem k66 (es : List (List AV)) (u v : Int) (hl : es.length < 9223372036854775807) : g66 es u v = true ∧ w66_0 es u v = cond (anyN (ex75 es u v) es.length) ((firstN (ex75 es u v) es.length : Nat) : Int) (-1) := by
  have h : r66a es u v 0 (es.length : Int) 0 = some (cond (anyN (ex75 es u v) es.length) (.x0 ((firstN (ex75 es u v) es.length : Nat) : Int) ((firstN (ex75 es u v) es.length : Nat) : Int)) (.x1 (es.length : Int))) := by
    refine run_find (n := es.length) (fun k => (⟨(k : Int)⟩ : S66a)) (ex75 es u v) (fun k => T66a.x0 (k : Int) (k : Int)) _ (fun k hk => ?_) ?_
    · unfold stp66a ex75
      simp only [lt_true hk, inb_true hk, wrap_succ (show k < 9223372036854775807 by omega), Int.toNat_natCast, cond_true]
      rfl
    · unfold stp66a
      rw [lt_false]; rfl
  refine TrP.ok (t := t66 es u v) (p := fun x => x = cond (anyN (ex75 es u v) es.length) ((firstN (ex75 es u v) es.length : Nat) : Int) (-1)) ?_
  unfold t66 i66a_0 i66a_1 v66a_0_t4'
  rw [h]
  cases anyN (ex75 es u v) es.length
  · exact .f rfl (.t rfl rfl)
  · exact .t rfl rfl
theorem k58 (es : List (List AV)) (u v : Int) (hl : es.length < 9223372036854775807) : g58 es u v = true ∧ w58_0 es u v = anyN (ex75 es u v) es.length := by
  unfold g58 w58_0 t58
  rw [(k66 es u v hl).1, (k66 es u v hl).2]
  refine ⟨rfl, ?_⟩
  cases anyN (ex75 es u v) es.length
  · rfl
  · exact ge0 (firstN (ex75 es u v) es.length)
theorem k65 (es : List (List AV)) (hl : es.length < 9223372036854775807) : g65 es = true ∧ w65_0 es = cond (anyN (ex74 es) es.length) ((firstN (ex74 es) es.length : Nat) : Int) (-1) := by
  have h : r65a es 0 (es.length : Int) 0 = some (cond (anyN (ex74 es) es.length) (.x0 ((firstN (ex74 es) es.length : Nat) : Int) ((firstN (ex74 es) es.length : Nat) : Int)) (.x1 (es.length : Int))) := by
    refine run_find (n := es.length) (fun k => (⟨(k : Int)⟩ : S65a)) (ex74 es) (fun k => T65a.x0 (k : Int) (k : Int)) _ (fun k hk => ?_) ?_
    · unfold stp65a ex74
      simp only [lt_true hk, inb_true hk, wrap_succ (show k < 9223372036854775807 by omega), Int.toNat_natCast, cond_true, (k57 _ _).1, (k57 _ _).2]
      rfl
    · unfold stp65a
      rw [lt_false]; rfl
  refine TrP.ok (t := t65 es) (p := fun x => x = cond (anyN (ex74 es) es.length) ((firstN (ex74 es) es.length : Nat) : Int) (-1)) ?_
  unfold t65 i65a_0 i65a_1 v65a_0_t4'
  rw [h]
  cases anyN (ex74 es) es.length
  · exact .f rfl (.t rfl rfl)
  · exact .t rfl rfl
theorem k56 (es : List (List AV)) (hl : es.length < 9223372036854775807) : g56 es = true ∧ w56_0 es = anyN (ex74 es) es.length := by
  unfold g56 w56_0 t56
  rw [(k65 es hl).1, (k65 es hl).2]
  refine ⟨rfl, ?_⟩
  cases anyN (ex74 es) es.length
  · rfl
  · exact ge0 (firstN (ex74 es) es.length)
theorem k59a (es : List (List AV)) (hl : es.length < 9223372036854775807) : g59a es = true ∧ w59a_0 es = cond (anyN (ex64a es) es.length) ((firstN (ex64a es) es.length : Nat) : Int) (-1) := by
  have h : r59aa es 0 (es.length : Int) 0 = some (cond (anyN (ex64a es) es.length) (.x0 ((firstN (ex64a es) es.length : Nat) : Int) ((firstN (ex64a es) es.length : Nat) : Int)) (.x1 (es.length : Int))) := by
    refine run_find (n := es.length) (fun k => (⟨(k : Int)⟩ : S59aa)) (ex64a es) (fun k => T59aa.x0 (k : Int) (k : Int)) _ (fun k hk => ?_) ?_
    · unfold stp59aa ex64a
      simp only [lt_true hk, inb_true hk, wrap_succ (show k < 9223372036854775807 by omega), Int.toNat_natCast, cond_true, (k36 _ _ _ _).1, (k36 _ _ _ _).2]
      rfl
    · unfold stp59aa
      rw [lt_false]; rfl
  refine TrP.ok (t := t59a es) (p := fun x => x = cond (anyN (ex64a es) es.length) ((firstN (ex64a es) es.length : Nat) : Int) (-1)) ?_
  unfold t59a i59aa_0 i59aa_1 v59aa_0_t4'
  rw [h]
  cases anyN (ex64a es) es.length
  · exact .f rfl (.t rfl rfl)
  · exact .t rfl rfl
theorem k35a (es : List (List AV)) (hl : es.length < 9223372036854775807) : g35a es = true ∧ w35a_0 es = anyN (ex64a es) es.length := by
  unfold g35a w35a_0 t35a
  rw [(k59a es hl).1, (k59a es hl).2]
  refine ⟨rfl, ?_⟩
  cases anyN (ex64a es) es.length
  · rfl
  · exact ge0 (firstN (ex64a es) es.length)
theorem k59b (es : List (List AV)) (u v : Int) (hl : es.length < 9223372036854775807) : g59b es u v = true ∧ w59b_0 es u v = cond (anyN (ex64b es u v) es.length) ((firstN (ex64b es u v) es.length : Nat) : Int) (-1) := by
  have h : r59ba es u v 0 (es.length : Int) 0 = some (cond (anyN (ex64b es u v) es.length) (.x0 ((firstN (ex64b es u v) es.length : Nat) : Int) ((firstN (ex64b es u v) es.length : Nat) : Int)) (.x1 (es.length : Int))) := by
    refine run_find (n := es.length) (fun k => (⟨(k : Int)⟩ : S59ba)) (ex64b es u v) (fun k => T59ba.x0 (k : Int) (k : Int)) _ (fun k hk => ?_) ?_
    · unfold stp59ba ex64b
      simp only [lt_true hk, inb_true hk, wrap_succ (show k < 9223372036854775807 by omega), Int.toNat_natCast, cond_true, (k43 _ _ _ _ _ _).1, (k43 _ _ _ _ _ _).2]
      rfl
    · unfold stp59ba
      rw [lt_false]; rfl
  refine TrP.ok (t := t59b es u v) (p := fun x => x = cond (anyN (ex64b es u v) es.length) ((firstN (ex64b es u v) es.length : Nat) : Int) (-1)) ?_
  unfold t59b i59ba_0 i59ba_1 v59ba_0_t4'
  rw [h]
  cases anyN (ex64b es u v) es.length
  · exact .f rfl (.t rfl rfl)
  · exact .t rfl rfl
theorem k35b (es : List (List AV)) (u v : Int) (hl : es.length < 9223372036854775807) : g35b es u v = true ∧ w35b_0 es u v = anyN (ex64b es u v) es.length := by
  unfold g35b w35b_0 t35b
  rw [(k59b es u v hl).1, (k59b es u v hl).2]
  refine ⟨rfl, ?_⟩
  cases anyN (ex64b es u v) es.length
  · rfl
  · exact ge0 (firstN (ex64b es u v) es.length)
end Go.Proofs.Ytoglnllbopcejaa

set_option maxRecDepth 100000
set_option linter.unusedVariables false
namespace Go.Proofs.Ytoglnllbopcejaa
open Go Go.Ev
end Go.Proofs.Ytoglnllbopcejaa

set_option maxRecDepth 100000
set_option maxHeartbeats 0
set_option linter.unusedVariables false
namespace Go.Proofs.Ytoglnllbopcejaa
open Go Go.Ev

noncomputable def c24 : Code := match Try.f24.body with | some c => c | _ => .skip
noncomputable def lp24a : Code := loopAt c24 [true, true, true, false, false]
noncomputable def s24a (ms : List (List AV)) (u v t6 : Int) (t7 : Bool) (t8 t9 t10 : Int) : St :=
  { t := [(0, .rs 67 ms), (2, .fn 25 []), (4, .rp [.int .i64, .int .i64] [.i .i64 u, .i .i64 v] 0), (6, .i .i64 t6), (7, .b t7), (8, .i .i64 t8), (9, .i .i64 t9), (10, .i .i64 t10)], m := [], nx := 0, nt := 49 }
structure S24a where
  t9 : Int
  t10 : Int
inductive T24a where
  | x0 (t9 : Int) (t10 : Int)
noncomputable def stp24a (ms : List (List AV)) (u v t6 : Int) (t7 : Bool) (t8 t9 t10 : Int) : Lp S24a T24a :=
  cond (decide (t9 < t10)) (cond (inb (IntKind.i64.wrap ((IntKind.u64.wrap (IntKind.i64.wrap (t9 + t10))).fdiv (2 ^ 1))) ms.length) (cond (g25 (fI (ms.getD (IntKind.i64.wrap ((IntKind.u64.wrap (IntKind.i64.wrap (t9 + t10))).fdiv (2 ^ 1))).toNat []) 0) (fI (ms.getD (IntKind.i64.wrap ((IntKind.u64.wrap (IntKind.i64.wrap (t9 + t10))).fdiv (2 ^ 1))).toNat []) 1) (fI (ms.getD (IntKind.i64.wrap ((IntKind.u64.wrap (IntKind.i64.wrap (t9 + t10))).fdiv (2 ^ 1))).toNat []) 2) (fI (ms.getD (IntKind.i64.wrap ((IntKind.u64.wrap (IntKind.i64.wrap (t9 + t10))).fdiv (2 ^ 1))).toNat []) 3) u v) (cond (decide (w25_0 (fI (ms.getD (IntKind.i64.wrap ((IntKind.u64.wrap (IntKind.i64.wrap (t9 + t10))).fdiv (2 ^ 1))).toNat []) 0) (fI (ms.getD (IntKind.i64.wrap ((IntKind.u64.wrap (IntKind.i64.wrap (t9 + t10))).fdiv (2 ^ 1))).toNat []) 1) (fI (ms.getD (IntKind.i64.wrap ((IntKind.u64.wrap (IntKind.i64.wrap (t9 + t10))).fdiv (2 ^ 1))).toNat []) 2) (fI (ms.getD (IntKind.i64.wrap ((IntKind.u64.wrap (IntKind.i64.wrap (t9 + t10))).fdiv (2 ^ 1))).toNat []) 3) u v < 0)) (.go ⟨IntKind.i64.wrap (IntKind.i64.wrap ((IntKind.u64.wrap (IntKind.i64.wrap (t9 + t10))).fdiv (2 ^ 1)) + 1), t10⟩) (.go ⟨t9, IntKind.i64.wrap ((IntKind.u64.wrap (IntKind.i64.wrap (t9 + t10))).fdiv (2 ^ 1))⟩)) (.bad)) (.bad)) (.out (.x0 t9 t10))
noncomputable def o24a_0 (ms : List (List AV)) (u v t6 : Int) (t7 : Bool) (t8 t9 t10 : Int) : St :=
  { t := [(0, .rs 67 ms), (2, .fn 25 []), (4, .rp [.int .i64, .int .i64] [.i .i64 u, .i .i64 v] 0), (6, .i .i64 t6), (7, .b t7), (8, .i .i64 t8), (9, .i .i64 t9), (10, .i .i64 t10)], m := [], nx := 0, nt := 49 }
noncomputable def ou24a (ms : List (List AV)) (u v t6 : Int) (t7 : Bool) (t8 : Int) : T24a → Ex × St
  | .x0 t9 t10 => (.ext 0, o24a_0 ms u v t6 t7 t8 t9 t10)
noncomputable def r24a (ms : List (List AV)) (u v t6 : Int) (t7 : Bool) (t8 t9 t10 : Int) : Option T24a := run (fun x => stp24a ms u v t6 t7 t8 x.t9 x.t10) (⟨t9, t10⟩ : S24a)
noncomputable def i24a_0 (ms : List (List AV)) (u v t6 : Int) (t7 : Bool) (t8 t9 t10 : Int) : Bool := match r24a ms u v t6 t7 t8 t9 t10 with
  | some (.x0 _ _) => true
  | _ => false
noncomputable def v24a_0_t9 (ms : List (List AV)) (u v t6 : Int) (t7 : Bool) (t8 t9 t10 : Int) : Int := match r24a ms u v t6 t7 t8 t9 t10 with
  | some (.x0 t9 _) => t9
  | _ => default
noncomputable def v24a_0_t10 (ms : List (List AV)) (u v t6 : Int) (t7 : Bool) (t8 t9 t10 : Int) : Int := match r24a ms u v t6 t7 t8 t9 t10 with
  | some (.x0 _ t10) => t10
  | _ => default
noncomputable def q24a (ms : List (List AV)) (u v t6 : Int) (t7 : Bool) (t8 t9 t10 : Int) : List (Bool × Ex × St) := [(i24a_0 ms u v t6 t7 t8 t9 t10, .ext 0, o24a_0 ms u v t6 t7 t8 (v24a_0_t9 ms u v t6 t7 t8 t9 t10) (v24a_0_t10 ms u v t6 t7 t8 t9 t10))]
noncomputable def l24a (st : St) : Option (List (Bool × Ex × St)) := qget [.rs 67, .fn 25 [], .rp [.int .i64, .int .i64] [.i .i64, .i .i64] 0, .i .i64, .b, .i .i64, .i .i64, .i .i64] [] 0 49 (normW Try.prog [(0, none), (2, none), (4, none), (6, none), (7, none), (8, none), (9, none), (10, none)] 0 st) fun ls => q24a (lLL ls 0) (lI ls 1) (lI ls 2) (lI ls 3) (lB ls 4) (lI ls 5) (lI ls 6) (lI ls 7)
noncomputable def L24 : LSpec := fun p st => match p with
  | [false, false, true, true, true] => l24a st
  | _ => none
theorem is24a_0 (ms : List (List AV)) (u v t6 : Int) (t7 : Bool) (t8 t9 t10 : Int) (h : i24a_0 ms u v t6 t7 t8 t9 t10 = true) : r24a ms u v t6 t7 t8 t9 t10 = some (.x0 (v24a_0_t9 ms u v t6 t7 t8 t9 t10) (v24a_0_t10 ms u v t6 t7 t8 t9 t10)) := by
  unfold i24a_0 at h
  unfold v24a_0_t9 v24a_0_t10
  generalize r24a ms u v t6 t7 t8 t9 t10 = r at h ⊢
  rcases r with _ | y
  · cases h
  · cases y <;> first | rfl | cases h
theorem round24a (ms : List (List AV)) (u v t6 : Int) (t7 : Bool) (t8 t9 t10 : Int) : round Try.prog SW4 (ro 24) L24 lp24a [false, false, true, true, true] [(0, none), (2, none), (4, none), (6, none), (7, none), (8, none), (9, none), (10, none)] 0 (s24a ms u v t6 t7 t8 t9 t10) =
    cond (decide (t9 < t10)) (cond (inb (IntKind.i64.wrap ((IntKind.u64.wrap (IntKind.i64.wrap (t9 + t10))).fdiv (2 ^ 1))) ms.length) (cond (g25 (fI (ms.getD (IntKind.i64.wrap ((IntKind.u64.wrap (IntKind.i64.wrap (t9 + t10))).fdiv (2 ^ 1))).toNat []) 0) (fI (ms.getD (IntKind.i64.wrap ((IntKind.u64.wrap (IntKind.i64.wrap (t9 + t10))).fdiv (2 ^ 1))).toNat []) 1) (fI (ms.getD (IntKind.i64.wrap ((IntKind.u64.wrap (IntKind.i64.wrap (t9 + t10))).fdiv (2 ^ 1))).toNat []) 2) (fI (ms.getD (IntKind.i64.wrap ((IntKind.u64.wrap (IntKind.i64.wrap (t9 + t10))).fdiv (2 ^ 1))).toNat []) 3) u v) (cond (decide (w25_0 (fI (ms.getD (IntKind.i64.wrap ((IntKind.u64.wrap (IntKind.i64.wrap (t9 + t10))).fdiv (2 ^ 1))).toNat []) 0) (fI (ms.getD (IntKind.i64.wrap ((IntKind.u64.wrap (IntKind.i64.wrap (t9 + t10))).fdiv (2 ^ 1))).toNat []) 1) (fI (ms.getD (IntKind.i64.wrap ((IntKind.u64.wrap (IntKind.i64.wrap (t9 + t10))).fdiv (2 ^ 1))).toNat []) 2) (fI (ms.getD (IntKind.i64.wrap ((IntKind.u64.wrap (IntKind.i64.wrap (t9 + t10))).fdiv (2 ^ 1))).toNat []) 3) u v < 0)) (some (.nrm, s24a ms u v t6 t7 t8 (IntKind.i64.wrap (IntKind.i64.wrap ((IntKind.u64.wrap (IntKind.i64.wrap (t9 + t10))).fdiv (2 ^ 1)) + 1)) t10)) (some (.nrm, s24a ms u v t6 t7 t8 t9 (IntKind.i64.wrap ((IntKind.u64.wrap (IntKind.i64.wrap (t9 + t10))).fdiv (2 ^ 1)))))) (none)) (none)) (some (.ext 0, o24a_0 ms u v t6 t7 t8 t9 t10)) := by kernel_rfl
theorem rnd24a (ms : List (List AV)) (u v t6 : Int) (t7 : Bool) (t8 : Int) (x : S24a) : round Try.prog SW4 (ro 24) L24 lp24a [false, false, true, true, true] [(0, none), (2, none), (4, none), (6, none), (7, none), (8, none), (9, none), (10, none)] 0 ((fun x => s24a ms u v t6 t7 t8 x.t9 x.t10) x) = toR (fun x => s24a ms u v t6 t7 t8 x.t9 x.t10) (ou24a ms u v t6 t7 t8) (stp24a ms u v t6 t7 t8 x.t9 x.t10) := by
  refine (round24a _ _ _ _ _ _ _ _ ).trans ?_
  unfold stp24a
  simp only [toR_cond]
  rfl
theorem lokb24a (ms : List (List AV)) (u v t6 : Int) (t7 : Bool) (t8 t9 t10 : Int) {e : Ex} {s : St} (hch : Chosen (q24a ms u v t6 t7 t8 t9 t10) e s) : LB Try.prog SW4 (ro 24) L24 lp24a [false, false, true, true, true] [(0, none), (2, none), (4, none), (6, none), (7, none), (8, none), (9, none), (10, none)] 0 (s24a ms u v t6 t7 t8 t9 t10) e s := by
  unfold q24a at hch
  have main := fun y h => LB_run (x := (⟨t9, t10⟩ : S24a)) (y := y) (nb := 0) (fun y => by cases y <;> simp [ou24a]) (rnd24a ms u v t6 t7 t8) h
  obtain ⟨x, hx, hg, rfl, rfl⟩ := chosen_any hch
  simp only [List.mem_cons, List.not_mem_nil, or_false] at hx
  subst hx
  exact main _ (is24a_0 ms u v t6 t7 t8 t9 t10 hg)
theorem lok24a {st : St} {outs : List (Bool × Ex × St)} {e : Ex} {s : St} (hl : l24a st = some outs) (hch : Chosen outs e s) :
    ∃ keep nb, 0 ≤ nb ∧ LB Try.prog SW4 (ro 24) L24 lp24a [false, false, true, true, true] keep nb st e s := by
  unfold l24a at hl
  obtain ⟨ls, hno, rfl⟩ := qget_some hl
  have hno := normW_norm hno
  refine ⟨_, _, ?_, .enterQ hno (s2 := s24a (lLL ls 0) (lI ls 1) (lI ls 2) (lI ls 3) (lB ls 4) (lI ls 5) (lI ls 6) (lI ls 7)) (by kernel_rfl) (lokb24a _ _ _ _ _ _ _ _ hch)⟩
  decide
theorem L24_ok (q : Pl) (c : Code) (hq : locate c24 q.reverse = some (.loop c)) (st : St) (outs : List (Bool × Ex × St)) (e : Ex) (s : St) (hl : L24 q st = some outs) (hch : Chosen outs e s) :
    ∃ keep nb, 0 ≤ nb ∧ LB Try.prog SW4 (ro 24) L24 c q keep nb st e s := by
  unfold L24 at hl
  split at hl
  · have : locate c24 ([false, false, true, true, true] : Pl).reverse = some (.loop lp24a) := by kernel_rfl
    rw [this] at hq
    cases hq
    exact lok24a hl hch
  · cases hl
theorem lok24 : LOK Try.prog SW4 (ro 24) L24 0 false c24 [] :=
  lok_lo L24_ok c24 [] false (locate_nil _) (by kernel_rfl)
noncomputable def t24 (ms : List (List AV)) (u v : Int) : Tr ((Int) × (Bool)) :=
  .cn (i24a_0 ms u v 0 false (↑ms.length : Int) 0 (↑ms.length : Int)) (.cn (decide (v24a_0_t9 ms u v 0 false (↑ms.length : Int) 0 (↑ms.length : Int) < (↑ms.length : Int))) (.cn (inb (v24a_0_t9 ms u v 0 false (↑ms.length : Int) 0 (↑ms.length : Int)) ms.length) (.cn (g25 (fI (ms.getD (v24a_0_t9 ms u v 0 false (↑ms.length : Int) 0 (↑ms.length : Int)).toNat []) 0) (fI (ms.getD (v24a_0_t9 ms u v 0 false (↑ms.length : Int) 0 (↑ms.length : Int)).toNat []) 1) (fI (ms.getD (v24a_0_t9 ms u v 0 false (↑ms.length : Int) 0 (↑ms.length : Int)).toNat []) 2) (fI (ms.getD (v24a_0_t9 ms u v 0 false (↑ms.length : Int) 0 (↑ms.length : Int)).toNat []) 3) u v) (.lf (v24a_0_t9 ms u v 0 false (↑ms.length : Int) 0 (↑ms.length : Int), w25_0 (fI (ms.getD (v24a_0_t9 ms u v 0 false (↑ms.length : Int) 0 (↑ms.length : Int)).toNat []) 0) (fI (ms.getD (v24a_0_t9 ms u v 0 false (↑ms.length : Int) 0 (↑ms.length : Int)).toNat []) 1) (fI (ms.getD (v24a_0_t9 ms u v 0 false (↑ms.length : Int) 0 (↑ms.length : Int)).toNat []) 2) (fI (ms.getD (v24a_0_t9 ms u v 0 false (↑ms.length : Int) 0 (↑ms.length : Int)).toNat []) 3) u v == 0)) (.nn)) (.nn)) (.lf (v24a_0_t9 ms u v 0 false (↑ms.length : Int) 0 (↑ms.length : Int), false))) (.nn)
noncomputable def g24 (ms : List (List AV)) (u v : Int) : Bool := (t24 ms u v).g
noncomputable def w24_0 (ms : List (List AV)) (u v : Int) : Int := (t24 ms u v).val.1
noncomputable def w24_1 (ms : List (List AV)) (u v : Int) : Bool := (t24 ms u v).val.2
theorem eq24 (ms : List (List AV)) (u v : Int) : evF Try.prog SW4 (ro 24) L24 Try.f24 [.rs 67 ms, .agg [.i .i64 u, .i .i64 v], .fn 25 []] = (t24 ms u v).opt (fun (x : (Int) × (Bool)) => (.tup [.i .i64 x.1, .b x.2] : AV)) := by kernel_rfl
theorem con24 (ms : List (List AV)) (u v : Int) (h : g24 ms u v = true) : Con Try.prog 24 [.rs 67 ms, .agg [.i .i64 u, .i .i64 v], .fn 25 []] [] (.tup [.i .i64 (w24_0 ms u v), .b (w24_1 ms u v)]) [] :=
  con_of SW4_ok mixed Try.func24 (c := c24) rfl (names 24 _ Try.func24) lok24 ((eq24 ms u v).trans (Tr.sound _ _ h))
noncomputable def e24 (args : List AV) (rows : List Blk) : Option (Bool × AV × List Blk) := match args, rows with
  | [.rs 67 ms, .agg [.i .i64 u, .i .i64 v], .fn 25 []], [] => some (g24 ms u v, .tup [.i .i64 (w24_0 ms u v), .b (w24_1 ms u v)], [])
  | _, _ => none
theorem e24_ok (args : List AV) (rows : List Blk) (pre : Bool) (v : AV) (rows' : List Blk) (h : e24 args rows = some (pre, v, rows')) (hp : pre = true) : Con Try.prog 24 args rows v rows' := by
  unfold e24 at h
  split at h
  · cases h; exact con24 _ _ _ hp
  · cases h
-- SPEC 24
end Go.Proofs.Ytoglnllbopcejaa

set_option maxRecDepth 100000
set_option linter.unusedVariables false
namespace Go.Proofs.Ytoglnllbopcejaa
open Go Go.Ev
noncomputable def SW5 : Ev.Spec := insS 24 e24 (insS 56 e56 (SW4))
theorem SW5_ok : SpecOK Try.prog SW5 := insS_ok e24_ok (insS_ok e56_ok (SW4_ok))
end Go.Proofs.Ytoglnllbopcejaa

set_option maxRecDepth 100000
set_option maxHeartbeats 0
set_option linter.unusedVariables false
namespace Go.Proofs.Ytoglnllbopcejaa
open Go Go.Ev

noncomputable def c34 : Code := match Try.f34.body with | some c => c | _ => .skip
noncomputable def lp34a : Code := loopAt c34 [true, true, false, true, false]
noncomputable def s34a (os t19 : List (List AV)) (t20 t21 m1 : Int) : St :=
  { t := [(1, .rp [.sl 32] [.rs 32 os] 0), (2, .p 1 0 0), (19, .rs 32 t19), (20, .i .i64 t20), (21, .i .i64 t21)], m := [(0, .dead), (1, .row 35 [[.i .i64 m1]]), (2, .dead), (3, .dead), (4, .dead), (5, .dead), (6, .dead), (7, .dead), (8, .dead), (9, .dead), (10, .dead), (11, .dead), (12, .dead)], nx := 13, nt := 103 }
structure S34a where
  t21 : Int
inductive T34a where
  | x0 (t21 : Int) (m1' : Int)
  | x1 (t21 : Int)
noncomputable def stp34a (os t19 : List (List AV)) (t20 m1 t21 : Int) : Lp S34a T34a :=
  cond (decide (t21 < t20)) (cond (inb t21 t19.length) (cond (decide (0 ≤ t21) && decide (t21 ≤ (↑os.length : Int))) (cond (g58 (List.drop 0 (List.take t21.toNat os)) (fI (t19.getD t21.toNat []) 0) (fI (t19.getD t21.toNat []) 1)) (cond (w58_0 (List.drop 0 (List.take t21.toNat os)) (fI (t19.getD t21.toNat []) 0) (fI (t19.getD t21.toNat []) 1)) (.out (.x0 t21 6)) (.go ⟨IntKind.i64.wrap (t21 + 1)⟩)) (.bad)) (.bad)) (.bad)) (.out (.x1 t21))
noncomputable def o34a_0 (os t19 : List (List AV)) (t20 m1 t21 m1' : Int) : St :=
  { t := [(1, .rp [.sl 32] [.rs 32 os] 0), (2, .p 1 0 0), (19, .rs 32 t19), (20, .i .i64 t20), (21, .i .i64 t21)], m := [(0, .dead), (1, .row 35 [[.i .i64 m1']]), (2, .dead), (3, .dead), (4, .dead), (5, .dead), (6, .dead), (7, .dead), (8, .dead), (9, .dead), (10, .dead), (11, .dead), (12, .dead)], nx := 13, nt := 103 }
noncomputable def o34a_1 (os t19 : List (List AV)) (t20 m1 t21 : Int) : St :=
  { t := [(1, .rp [.sl 32] [.rs 32 os] 0), (2, .p 1 0 0), (19, .rs 32 t19), (20, .i .i64 t20), (21, .i .i64 t21)], m := [(0, .dead), (1, .row 35 [[.i .i64 m1]]), (2, .dead), (3, .dead), (4, .dead), (5, .dead), (6, .dead), (7, .dead), (8, .dead), (9, .dead), (10, .dead), (11, .dead), (12, .dead)], nx := 13, nt := 103 }
noncomputable def ou34a (os t19 : List (List AV)) (t20 m1 : Int) : T34a → Ex × St
  | .x0 t21 m1' => (.ret, o34a_0 os t19 t20 m1 t21 m1')
  | .x1 t21 => (.ext 0, o34a_1 os t19 t20 m1 t21)
noncomputable def r34a (os t19 : List (List AV)) (t20 m1 t21 : Int) : Option T34a := run (fun x => stp34a os t19 t20 m1 x.t21) (⟨t21⟩ : S34a)
noncomputable def i34a_0 (os t19 : List (List AV)) (t20 m1 t21 : Int) : Bool := match r34a os t19 t20 m1 t21 with
  | some (.x0 _ _) => true
  | _ => false
noncomputable def v34a_0_t21 (os t19 : List (List AV)) (t20 m1 t21 : Int) : Int := match r34a os t19 t20 m1 t21 with
  | some (.x0 t21 _) => t21
  | _ => default
noncomputable def v34a_0_m1' (os t19 : List (List AV)) (t20 m1 t21 : Int) : Int := match r34a os t19 t20 m1 t21 with
  | some (.x0 _ m1') => m1'
  | _ => default
noncomputable def i34a_1 (os t19 : List (List AV)) (t20 m1 t21 : Int) : Bool := match r34a os t19 t20 m1 t21 with
  | some (.x1 _) => true
  | _ => false
noncomputable def v34a_1_t21 (os t19 : List (List AV)) (t20 m1 t21 : Int) : Int := match r34a os t19 t20 m1 t21 with
  | some (.x1 t21) => t21
  | _ => default
noncomputable def q34a (os t19 : List (List AV)) (t20 t21 m1 : Int) : List (Bool × Ex × St) := [(i34a_0 os t19 t20 m1 t21, .ret, o34a_0 os t19 t20 m1 (v34a_0_t21 os t19 t20 m1 t21) (v34a_0_m1' os t19 t20 m1 t21)), (i34a_1 os t19 t20 m1 t21, .ext 0, o34a_1 os t19 t20 m1 (v34a_1_t21 os t19 t20 m1 t21))]
noncomputable def l34a (st : St) : Option (List (Bool × Ex × St)) := qget [.rp [.sl 32] [.rs 32] 0, .p 1 0 0, .rs 32, .i .i64, .i .i64] [(0, .dead), (1, .row 35 [.l [.i .i64]]), (2, .dead), (3, .dead), (4, .dead), (5, .dead), (6, .dead), (7, .dead), (8, .dead), (9, .dead), (10, .dead), (11, .dead), (12, .dead)] 13 103 (normV Try.prog [(1, none), (2, none), (19, none), (20, none), (21, none)] 13 st) fun ls => q34a (lLL ls 0) (lLL ls 1) (lI ls 2) (lI ls 3) (lI ls 4)
noncomputable def as34b : Code := rangeA c34 [true, true, true, true, true, false, true, false]
noncomputable def bd34b : Code := rangeB c34 [true, true, true, true, true, false, true, false]
noncomputable def s34b (os t43 : List (List AV)) (m1 : Int) (m13 : Bool) (m25_0 m25_1 m25_2 m25_3 : Int) : St :=
  { t := [(1, .rp [.sl 32] [.rs 32 os] 0), (2, .p 1 0 0), (5, .p 13 0 0), (6, .p 25 0 0), (43, .fn 60 [.rp [.sl 32] [.rs 32 t43] 0])], m := [(0, .dead), (1, .row 35 [[.i .i64 m1]]), (2, .dead), (3, .dead), (4, .dead), (5, .dead), (6, .dead), (7, .dead), (8, .dead), (9, .dead), (10, .dead), (11, .dead), (12, .dead), (13, .row 4 [[.b m13]]), (14, .dead), (15, .dead), (16, .dead), (17, .dead), (18, .dead), (19, .dead), (20, .dead), (21, .dead), (22, .dead), (23, .dead), (24, .dead), (25, .row 87 [[.i .i64 m25_0, .i .i64 m25_1, .i .i64 m25_2, .i .i64 m25_3]]), (26, .dead), (27, .dead), (28, .dead)], nx := 29, nt := 103 }
noncomputable def lp34ba : Code := loopAt c34 [true, true, true, true, true, false, true, false, true, false, false, true, false]
noncomputable def s34ba (os : List (List AV)) (t46 t47 m1 : Int) (m13 : Bool) (m25_0 m25_1 m25_2 m25_3 m29_0 m29_1 m29_2 m29_3 : Int) : St :=
  { t := [(2, .p 1 0 0), (5, .p 13 0 0), (6, .p 25 0 0), (7, .p 29 0 0), (45, .rs 32 os), (46, .i .i64 t46), (47, .i .i64 t47)], m := [(0, .dead), (1, .row 35 [[.i .i64 m1]]), (2, .dead), (3, .dead), (4, .dead), (5, .dead), (6, .dead), (7, .dead), (8, .dead), (9, .dead), (10, .dead), (11, .dead), (12, .dead), (13, .row 4 [[.b m13]]), (14, .dead), (15, .dead), (16, .dead), (17, .dead), (18, .dead), (19, .dead), (20, .dead), (21, .dead), (22, .dead), (23, .dead), (24, .dead), (25, .row 87 [[.i .i64 m25_0, .i .i64 m25_1, .i .i64 m25_2, .i .i64 m25_3]]), (26, .dead), (27, .dead), (28, .dead), (29, .row 87 [[.i .i64 m29_0, .i .i64 m29_1, .i .i64 m29_2, .i .i64 m29_3]]), (30, .dead), (31, .dead), (32, .dead), (33, .dead)], nx := 34, nt := 103 }
structure S34ba where
  t47 : Int
  m13 : Bool
inductive T34ba where
  | x0 (t47 : Int) (m1' : Int) (m13 : Bool)
  | x1 (t47 : Int) (m13 : Bool)
noncomputable def stp34ba (os : List (List AV)) (t46 m1 m25_0 m25_1 m25_2 m25_3 m29_0 m29_1 m29_2 m29_3 t47 : Int) (m13 : Bool) : Lp S34ba T34ba :=
  cond (decide (t47 < t46)) (cond (inb t47 os.length) (cond (decide (w42_0 m29_0 m29_1 m29_2 m29_3 (fI (os.getD t47.toNat []) 0) (fI (os.getD t47.toNat []) 1) < 0)) (.out (.x0 t47 9 m13)) (cond (decide (w42_0 m29_0 m29_1 m29_2 m29_3 (fI (os.getD t47.toNat []) 0) (fI (os.getD t47.toNat []) 1) > 0)) (.go ⟨IntKind.i64.wrap (t47 + 1), true⟩) (.go ⟨IntKind.i64.wrap (t47 + 1), m13⟩))) (.bad)) (.out (.x1 t47 m13))
noncomputable def o34ba_0 (os : List (List AV)) (t46 m1 m25_0 m25_1 m25_2 m25_3 m29_0 m29_1 m29_2 m29_3 t47 m1' : Int) (m13 : Bool) : St :=
  { t := [(2, .p 1 0 0), (5, .p 13 0 0), (6, .p 25 0 0), (7, .p 29 0 0), (45, .rs 32 os), (46, .i .i64 t46), (47, .i .i64 t47)], m := [(0, .dead), (1, .row 35 [[.i .i64 m1']]), (2, .dead), (3, .dead), (4, .dead), (5, .dead), (6, .dead), (7, .dead), (8, .dead), (9, .dead), (10, .dead), (11, .dead), (12, .dead), (13, .row 4 [[.b m13]]), (14, .dead), (15, .dead), (16, .dead), (17, .dead), (18, .dead), (19, .dead), (20, .dead), (21, .dead), (22, .dead), (23, .dead), (24, .dead), (25, .row 87 [[.i .i64 m25_0, .i .i64 m25_1, .i .i64 m25_2, .i .i64 m25_3]]), (26, .dead), (27, .dead), (28, .dead), (29, .row 87 [[.i .i64 m29_0, .i .i64 m29_1, .i .i64 m29_2, .i .i64 m29_3]]), (30, .dead), (31, .dead), (32, .dead), (33, .dead)], nx := 34, nt := 103 }
noncomputable def o34ba_1 (os : List (List AV)) (t46 m1 m25_0 m25_1 m25_2 m25_3 m29_0 m29_1 m29_2 m29_3 t47 : Int) (m13 : Bool) : St :=
  { t := [(2, .p 1 0 0), (5, .p 13 0 0), (6, .p 25 0 0), (7, .p 29 0 0), (45, .rs 32 os), (46, .i .i64 t46), (47, .i .i64 t47)], m := [(0, .dead), (1, .row 35 [[.i .i64 m1]]), (2, .dead), (3, .dead), (4, .dead), (5, .dead), (6, .dead), (7, .dead), (8, .dead), (9, .dead), (10, .dead), (11, .dead), (12, .dead), (13, .row 4 [[.b m13]]), (14, .dead), (15, .dead), (16, .dead), (17, .dead), (18, .dead), (19, .dead), (20, .dead), (21, .dead), (22, .dead), (23, .dead), (24, .dead), (25, .row 87 [[.i .i64 m25_0, .i .i64 m25_1, .i .i64 m25_2, .i .i64 m25_3]]), (26, .dead), (27, .dead), (28, .dead), (29, .row 87 [[.i .i64 m29_0, .i .i64 m29_1, .i .i64 m29_2, .i .i64 m29_3]]), (30, .dead), (31, .dead), (32, .dead), (33, .dead)], nx := 34, nt := 103 }
noncomputable def ou34ba (os : List (List AV)) (t46 m1 m25_0 m25_1 m25_2 m25_3 m29_0 m29_1 m29_2 m29_3 : Int) : T34ba → Ex × St
  | .x0 t47 m1' m13 => (.ret, o34ba_0 os t46 m1 m25_0 m25_1 m25_2 m25_3 m29_0 m29_1 m29_2 m29_3 t47 m1' m13)
  | .x1 t47 m13 => (.ext 4, o34ba_1 os t46 m1 m25_0 m25_1 m25_2 m25_3 m29_0 m29_1 m29_2 m29_3 t47 m13)
noncomputable def r34ba (os : List (List AV)) (t46 m1 m25_0 m25_1 m25_2 m25_3 m29_0 m29_1 m29_2 m29_3 t47 : Int) (m13 : Bool) : Option T34ba := run (fun x => stp34ba os t46 m1 m25_0 m25_1 m25_2 m25_3 m29_0 m29_1 m29_2 m29_3 x.t47 x.m13) (⟨t47, m13⟩ : S34ba)
noncomputable def i34ba_0 (os : List (List AV)) (t46 m1 m25_0 m25_1 m25_2 m25_3 m29_0 m29_1 m29_2 m29_3 t47 : Int) (m13 : Bool) : Bool := match r34ba os t46 m1 m25_0 m25_1 m25_2 m25_3 m29_0 m29_1 m29_2 m29_3 t47 m13 with
  | some (.x0 _ _ _) => true
  | _ => false
noncomputable def v34ba_0_t47 (os : List (List AV)) (t46 m1 m25_0 m25_1 m25_2 m25_3 m29_0 m29_1 m29_2 m29_3 t47 : Int) (m13 : Bool) : Int := match r34ba os t46 m1 m25_0 m25_1 m25_2 m25_3 m29_0 m29_1 m29_2 m29_3 t47 m13 with
  | some (.x0 t47 _ _) => t47
  | _ => default
noncomputable def v34ba_0_m1' (os : List (List AV)) (t46 m1 m25_0 m25_1 m25_2 m25_3 m29_0 m29_1 m29_2 m29_3 t47 : Int) (m13 : Bool) : Int := match r34ba os t46 m1 m25_0 m25_1 m25_2 m25_3 m29_0 m29_1 m29_2 m29_3 t47 m13 with
  | some (.x0 _ m1' _) => m1'
  | _ => default
noncomputable def v34ba_0_m13 (os : List (List AV)) (t46 m1 m25_0 m25_1 m25_2 m25_3 m29_0 m29_1 m29_2 m29_3 t47 : Int) (m13 : Bool) : Bool := match r34ba os t46 m1 m25_0 m25_1 m25_2 m25_3 m29_0 m29_1 m29_2 m29_3 t47 m13 with
  | some (.x0 _ _ m13) => m13
  | _ => default
noncomputable def i34ba_1 (os : List (List AV)) (t46 m1 m25_0 m25_1 m25_2 m25_3 m29_0 m29_1 m29_2 m29_3 t47 : Int) (m13 : Bool) : Bool := match r34ba os t46 m1 m25_0 m25_1 m25_2 m25_3 m29_0 m29_1 m29_2 m29_3 t47 m13 with
  | some (.x1 _ _) => true
  | _ => false
noncomputable def v34ba_1_t47 (os : List (List AV)) (t46 m1 m25_0 m25_1 m25_2 m25_3 m29_0 m29_1 m29_2 m29_3 t47 : Int) (m13 : Bool) : Int := match r34ba os t46 m1 m25_0 m25_1 m25_2 m25_3 m29_0 m29_1 m29_2 m29_3 t47 m13 with
  | some (.x1 t47 _) => t47
  | _ => default
noncomputable def v34ba_1_m13 (os : List (List AV)) (t46 m1 m25_0 m25_1 m25_2 m25_3 m29_0 m29_1 m29_2 m29_3 t47 : Int) (m13 : Bool) : Bool := match r34ba os t46 m1 m25_0 m25_1 m25_2 m25_3 m29_0 m29_1 m29_2 m29_3 t47 m13 with
  | some (.x1 _ m13) => m13
  | _ => default
noncomputable def q34ba (os : List (List AV)) (t46 t47 m1 : Int) (m13 : Bool) (m25_0 m25_1 m25_2 m25_3 m29_0 m29_1 m29_2 m29_3 : Int) : List (Bool × Ex × St) := [(i34ba_0 os t46 m1 m25_0 m25_1 m25_2 m25_3 m29_0 m29_1 m29_2 m29_3 t47 m13, .ret, o34ba_0 os t46 m1 m25_0 m25_1 m25_2 m25_3 m29_0 m29_1 m29_2 m29_3 (v34ba_0_t47 os t46 m1 m25_0 m25_1 m25_2 m25_3 m29_0 m29_1 m29_2 m29_3 t47 m13) (v34ba_0_m1' os t46 m1 m25_0 m25_1 m25_2 m25_3 m29_0 m29_1 m29_2 m29_3 t47 m13) (v34ba_0_m13 os t46 m1 m25_0 m25_1 m25_2 m25_3 m29_0 m29_1 m29_2 m29_3 t47 m13)), (i34ba_1 os t46 m1 m25_0 m25_1 m25_2 m25_3 m29_0 m29_1 m29_2 m29_3 t47 m13, .ext 4, o34ba_1 os t46 m1 m25_0 m25_1 m25_2 m25_3 m29_0 m29_1 m29_2 m29_3 (v34ba_1_t47 os t46 m1 m25_0 m25_1 m25_2 m25_3 m29_0 m29_1 m29_2 m29_3 t47 m13) (v34ba_1_m13 os t46 m1 m25_0 m25_1 m25_2 m25_3 m29_0 m29_1 m29_2 m29_3 t47 m13))]
noncomputable def l34ba (st : St) : Option (List (Bool × Ex × St)) := qget [.p 1 0 0, .p 13 0 0, .p 25 0 0, .p 29 0 0, .rs 32, .i .i64, .i .i64] [(0, .dead), (1, .row 35 [.l [.i .i64]]), (2, .dead), (3, .dead), (4, .dead), (5, .dead), (6, .dead), (7, .dead), (8, .dead), (9, .dead), (10, .dead), (11, .dead), (12, .dead), (13, .row 4 [.l [.b]]), (14, .dead), (15, .dead), (16, .dead), (17, .dead), (18, .dead), (19, .dead), (20, .dead), (21, .dead), (22, .dead), (23, .dead), (24, .dead), (25, .row 87 [.l [.i .i64, .i .i64, .i .i64, .i .i64]]), (26, .dead), (27, .dead), (28, .dead), (29, .row 87 [.l [.i .i64, .i .i64, .i .i64, .i .i64]]), (30, .dead), (31, .dead), (32, .dead), (33, .dead)] 34 103 (normV Try.prog [(2, none), (5, none), (6, none), (7, none), (45, none), (46, none), (47, none)] 34 st) fun ls => q34ba (lLL ls 0) (lI ls 1) (lI ls 2) (lI ls 3) (lB ls 4) (lI ls 5) (lI ls 6) (lI ls 7) (lI ls 8) (lI ls 9) (lI ls 10) (lI ls 11) (lI ls 12)
structure S34b where
  m13 : Bool
  m25_0 : Int
  m25_1 : Int
  m25_2 : Int
  m25_3 : Int
inductive T34b where
  | x0 (m1' : Int) (m13 : Bool) (m25_0 : Int) (m25_1 : Int) (m25_2 : Int) (m25_3 : Int)
noncomputable def stp34b (os t43 : List (List AV)) (m1 : Int) (m13 : Bool) (m25_0 m25_1 m25_2 m25_3 : Int) (it : List AV) : Lp S34b T34b :=
  cond (i34ba_0 os (↑os.length : Int) m1 m25_0 m25_1 m25_2 m25_3 (fI it 0) (fI it 1) (fI it 2) (fI it 3) 0 m13) (.out (.x0 (v34ba_0_m1' os (↑os.length : Int) m1 m25_0 m25_1 m25_2 m25_3 (fI it 0) (fI it 1) (fI it 2) (fI it 3) 0 m13) (v34ba_0_m13 os (↑os.length : Int) m1 m25_0 m25_1 m25_2 m25_3 (fI it 0) (fI it 1) (fI it 2) (fI it 3) 0 m13) m25_0 m25_1 m25_2 m25_3)) (cond (i34ba_1 os (↑os.length : Int) m1 m25_0 m25_1 m25_2 m25_3 (fI it 0) (fI it 1) (fI it 2) (fI it 3) 0 m13) (cond (w42_0 m25_0 m25_1 m25_2 m25_3 (fI it 2) (fI it 3) == 0) (cond (decide (IntKind.i64.wrap (IntKind.i64.wrap (IntKind.i64.wrap (m25_2 - m25_0) * IntKind.i64.wrap (fI it 2 - fI it 0)) + IntKind.i64.wrap (IntKind.i64.wrap (m25_3 - m25_1) * IntKind.i64.wrap (fI it 3 - fI it 1))) < 0)) (.out (.x0 9 (v34ba_1_m13 os (↑os.length : Int) m1 m25_0 m25_1 m25_2 m25_3 (fI it 0) (fI it 1) (fI it 2) (fI it 3) 0 m13) m25_0 m25_1 m25_2 m25_3)) (.go ⟨v34ba_1_m13 os (↑os.length : Int) m1 m25_0 m25_1 m25_2 m25_3 (fI it 0) (fI it 1) (fI it 2) (fI it 3) 0 m13, fI it 0, fI it 1, fI it 2, fI it 3⟩)) (.go ⟨v34ba_1_m13 os (↑os.length : Int) m1 m25_0 m25_1 m25_2 m25_3 (fI it 0) (fI it 1) (fI it 2) (fI it 3) 0 m13, fI it 0, fI it 1, fI it 2, fI it 3⟩)) (.bad))
noncomputable def o34b_0 (os t43 : List (List AV)) (m1 m1' : Int) (m13 : Bool) (m25_0 m25_1 m25_2 m25_3 : Int) : St :=
  { t := [(1, .rp [.sl 32] [.rs 32 os] 0), (2, .p 1 0 0), (5, .p 13 0 0), (6, .p 25 0 0), (43, .fn 60 [.rp [.sl 32] [.rs 32 t43] 0])], m := [(0, .dead), (1, .row 35 [[.i .i64 m1']]), (2, .dead), (3, .dead), (4, .dead), (5, .dead), (6, .dead), (7, .dead), (8, .dead), (9, .dead), (10, .dead), (11, .dead), (12, .dead), (13, .row 4 [[.b m13]]), (14, .dead), (15, .dead), (16, .dead), (17, .dead), (18, .dead), (19, .dead), (20, .dead), (21, .dead), (22, .dead), (23, .dead), (24, .dead), (25, .row 87 [[.i .i64 m25_0, .i .i64 m25_1, .i .i64 m25_2, .i .i64 m25_3]]), (26, .dead), (27, .dead), (28, .dead)], nx := 29, nt := 103 }
noncomputable def ou34b (os t43 : List (List AV)) (m1 : Int) : T34b → Ex × St
  | .x0 m1' m13 m25_0 m25_1 m25_2 m25_3 => (.ret, o34b_0 os t43 m1 m1' m13 m25_0 m25_1 m25_2 m25_3)
noncomputable def r34b (os t43 : List (List AV)) (m1 : Int) (m13 : Bool) (m25_0 m25_1 m25_2 m25_3 : Int) (es : List (List AV)) : Option (Sum S34b T34b) := iterR (fun x it => stp34b os t43 m1 x.m13 x.m25_0 x.m25_1 x.m25_2 x.m25_3 it) (sidesX es) (⟨m13, m25_0, m25_1, m25_2, m25_3⟩ : S34b)
noncomputable def i34b_0 (os t43 : List (List AV)) (m1 : Int) (m13 : Bool) (m25_0 m25_1 m25_2 m25_3 : Int) (es : List (List AV)) : Bool := match r34b os t43 m1 m13 m25_0 m25_1 m25_2 m25_3 es with
  | some (.inl ⟨_, _, _, _, _⟩) => true
  | _ => false
noncomputable def v34b_0_m13 (os t43 : List (List AV)) (m1 : Int) (m13 : Bool) (m25_0 m25_1 m25_2 m25_3 : Int) (es : List (List AV)) : Bool := match r34b os t43 m1 m13 m25_0 m25_1 m25_2 m25_3 es with
  | some (.inl ⟨m13, _, _, _, _⟩) => m13
  | _ => default
noncomputable def v34b_0_m25_0 (os t43 : List (List AV)) (m1 : Int) (m13 : Bool) (m25_0 m25_1 m25_2 m25_3 : Int) (es : List (List AV)) : Int := match r34b os t43 m1 m13 m25_0 m25_1 m25_2 m25_3 es with
  | some (.inl ⟨_, m25_0, _, _, _⟩) => m25_0
  | _ => default
noncomputable def v34b_0_m25_1 (os t43 : List (List AV)) (m1 : Int) (m13 : Bool) (m25_0 m25_1 m25_2 m25_3 : Int) (es : List (List AV)) : Int := match r34b os t43 m1 m13 m25_0 m25_1 m25_2 m25_3 es with
  | some (.inl ⟨_, _, m25_1, _, _⟩) => m25_1
  | _ => default
noncomputable def v34b_0_m25_2 (os t43 : List (List AV)) (m1 : Int) (m13 : Bool) (m25_0 m25_1 m25_2 m25_3 : Int) (es : List (List AV)) : Int := match r34b os t43 m1 m13 m25_0 m25_1 m25_2 m25_3 es with
  | some (.inl ⟨_, _, _, m25_2, _⟩) => m25_2
  | _ => default
noncomputable def v34b_0_m25_3 (os t43 : List (List AV)) (m1 : Int) (m13 : Bool) (m25_0 m25_1 m25_2 m25_3 : Int) (es : List (List AV)) : Int := match r34b os t43 m1 m13 m25_0 m25_1 m25_2 m25_3 es with
  | some (.inl ⟨_, _, _, _, m25_3⟩) => m25_3
  | _ => default
noncomputable def i34b_1 (os t43 : List (List AV)) (m1 : Int) (m13 : Bool) (m25_0 m25_1 m25_2 m25_3 : Int) (es : List (List AV)) : Bool := match r34b os t43 m1 m13 m25_0 m25_1 m25_2 m25_3 es with
  | some (.inr (.x0 _ _ _ _ _ _)) => true
  | _ => false
noncomputable def v34b_1_m1' (os t43 : List (List AV)) (m1 : Int) (m13 : Bool) (m25_0 m25_1 m25_2 m25_3 : Int) (es : List (List AV)) : Int := match r34b os t43 m1 m13 m25_0 m25_1 m25_2 m25_3 es with
  | some (.inr (.x0 m1' _ _ _ _ _)) => m1'
  | _ => default
noncomputable def v34b_1_m13 (os t43 : List (List AV)) (m1 : Int) (m13 : Bool) (m25_0 m25_1 m25_2 m25_3 : Int) (es : List (List AV)) : Bool := match r34b os t43 m1 m13 m25_0 m25_1 m25_2 m25_3 es with
  | some (.inr (.x0 _ m13 _ _ _ _)) => m13
  | _ => default
noncomputable def v34b_1_m25_0 (os t43 : List (List AV)) (m1 : Int) (m13 : Bool) (m25_0 m25_1 m25_2 m25_3 : Int) (es : List (List AV)) : Int := match r34b os t43 m1 m13 m25_0 m25_1 m25_2 m25_3 es with
  | some (.inr (.x0 _ _ m25_0 _ _ _)) => m25_0
  | _ => default
noncomputable def v34b_1_m25_1 (os t43 : List (List AV)) (m1 : Int) (m13 : Bool) (m25_0 m25_1 m25_2 m25_3 : Int) (es : List (List AV)) : Int := match r34b os t43 m1 m13 m25_0 m25_1 m25_2 m25_3 es with
  | some (.inr (.x0 _ _ _ m25_1 _ _)) => m25_1
  | _ => default
noncomputable def v34b_1_m25_2 (os t43 : List (List AV)) (m1 : Int) (m13 : Bool) (m25_0 m25_1 m25_2 m25_3 : Int) (es : List (List AV)) : Int := match r34b os t43 m1 m13 m25_0 m25_1 m25_2 m25_3 es with
  | some (.inr (.x0 _ _ _ _ m25_2 _)) => m25_2
  | _ => default
noncomputable def v34b_1_m25_3 (os t43 : List (List AV)) (m1 : Int) (m13 : Bool) (m25_0 m25_1 m25_2 m25_3 : Int) (es : List (List AV)) : Int := match r34b os t43 m1 m13 m25_0 m25_1 m25_2 m25_3 es with
  | some (.inr (.x0 _ _ _ _ _ m25_3)) => m25_3
  | _ => default
noncomputable def l34b (st : St) : Option (List (Bool × Ex × St)) := match normV Try.prog [(1, none), (2, none), (5, none), (6, none), (43, none)] 29 st, gt st.t 43 with
  | some ([.rp [.sl 32] [.rs 32 os] 0, .p 1 0 0, .p 13 0 0, .p 25 0 0, .fn 60 [.rp [.sl 32] [.rs 32 t43] 0]], (0, .dead) :: (1, .row 35 [[.i .i64 m1]]) :: (2, .dead) :: (3, .dead) :: (4, .dead) :: (5, .dead) :: (6, .dead) :: (7, .dead) :: (8, .dead) :: (9, .dead) :: (10, .dead) :: (11, .dead) :: (12, .dead) :: (13, .row 4 [[.b m13]]) :: (14, .dead) :: (15, .dead) :: (16, .dead) :: (17, .dead) :: (18, .dead) :: (19, .dead) :: (20, .dead) :: (21, .dead) :: (22, .dead) :: (23, .dead) :: (24, .dead) :: (25, .row 87 [[.i .i64 m25_0, .i .i64 m25_1, .i .i64 m25_2, .i .i64 m25_3]]) :: (26, .dead) :: (27, .dead) :: (28, .dead) :: [], 29, 103), .fn 60 [.rp [.sl 32] [.rs 32 es] 0] => some [(okS es && i34b_0 os t43 m1 m13 m25_0 m25_1 m25_2 m25_3 es, .nrm, s34b os t43 m1 (v34b_0_m13 os t43 m1 m13 m25_0 m25_1 m25_2 m25_3 es) (v34b_0_m25_0 os t43 m1 m13 m25_0 m25_1 m25_2 m25_3 es) (v34b_0_m25_1 os t43 m1 m13 m25_0 m25_1 m25_2 m25_3 es) (v34b_0_m25_2 os t43 m1 m13 m25_0 m25_1 m25_2 m25_3 es) (v34b_0_m25_3 os t43 m1 m13 m25_0 m25_1 m25_2 m25_3 es)), (okS es && i34b_1 os t43 m1 m13 m25_0 m25_1 m25_2 m25_3 es, .ret, o34b_0 os t43 m1 (v34b_1_m1' os t43 m1 m13 m25_0 m25_1 m25_2 m25_3 es) (v34b_1_m13 os t43 m1 m13 m25_0 m25_1 m25_2 m25_3 es) (v34b_1_m25_0 os t43 m1 m13 m25_0 m25_1 m25_2 m25_3 es) (v34b_1_m25_1 os t43 m1 m13 m25_0 m25_1 m25_2 m25_3 es) (v34b_1_m25_2 os t43 m1 m13 m25_0 m25_1 m25_2 m25_3 es) (v34b_1_m25_3 os t43 m1 m13 m25_0 m25_1 m25_2 m25_3 es))]
  | _, _ => none
noncomputable def L34 : LSpec := fun p st => match p with
  | [false, true, false, true, true] => l34a st
  | [false, true, false, false, true, false, true, false, true, true, true, true, true] => l34ba st
  | [false, true, false, true, true, true, true, true] => l34b st
  | _ => none
theorem is34a_0 (os t19 : List (List AV)) (t20 m1 t21 : Int) (h : i34a_0 os t19 t20 m1 t21 = true) : r34a os t19 t20 m1 t21 = some (.x0 (v34a_0_t21 os t19 t20 m1 t21) (v34a_0_m1' os t19 t20 m1 t21)) := by
  unfold i34a_0 at h
  unfold v34a_0_t21 v34a_0_m1'
  generalize r34a os t19 t20 m1 t21 = r at h ⊢
  rcases r with _ | y
  · cases h
  · cases y <;> first | rfl | cases h
theorem is34a_1 (os t19 : List (List AV)) (t20 m1 t21 : Int) (h : i34a_1 os t19 t20 m1 t21 = true) : r34a os t19 t20 m1 t21 = some (.x1 (v34a_1_t21 os t19 t20 m1 t21)) := by
  unfold i34a_1 at h
  unfold v34a_1_t21
  generalize r34a os t19 t20 m1 t21 = r at h ⊢
  rcases r with _ | y
  · cases h
  · cases y <;> first | rfl | cases h
theorem round34a (os t19 : List (List AV)) (t20 t21 m1 : Int) : round Try.prog SW5 (ro 34) L34 lp34a [false, true, false, true, true] [(1, none), (2, none), (19, none), (20, none), (21, none)] 13 (s34a os t19 t20 t21 m1) =
    cond (decide (t21 < t20)) (cond (inb t21 t19.length) (cond (decide (0 ≤ t21) && decide (t21 ≤ (↑os.length : Int))) (cond (g58 (List.drop 0 (List.take t21.toNat os)) (fI (t19.getD t21.toNat []) 0) (fI (t19.getD t21.toNat []) 1)) (cond (w58_0 (List.drop 0 (List.take t21.toNat os)) (fI (t19.getD t21.toNat []) 0) (fI (t19.getD t21.toNat []) 1)) (some (.ret, o34a_0 os t19 t20 m1 t21 6)) (some (.nrm, s34a os t19 t20 (IntKind.i64.wrap (t21 + 1)) m1))) (none)) (none)) (none)) (some (.ext 0, o34a_1 os t19 t20 m1 t21)) := by kernel_rfl
theorem rnd34a (os t19 : List (List AV)) (t20 m1 : Int) (x : S34a) : round Try.prog SW5 (ro 34) L34 lp34a [false, true, false, true, true] [(1, none), (2, none), (19, none), (20, none), (21, none)] 13 ((fun x => s34a os t19 t20 x.t21 m1) x) = toR (fun x => s34a os t19 t20 x.t21 m1) (ou34a os t19 t20 m1) (stp34a os t19 t20 m1 x.t21) := by
  refine (round34a _ _ _ _ _ ).trans ?_
  unfold stp34a
  simp only [toR_cond]
  rfl
theorem lokb34a (os t19 : List (List AV)) (t20 t21 m1 : Int) {e : Ex} {s : St} (hch : Chosen (q34a os t19 t20 t21 m1) e s) : LB Try.prog SW5 (ro 34) L34 lp34a [false, true, false, true, true] [(1, none), (2, none), (19, none), (20, none), (21, none)] 13 (s34a os t19 t20 t21 m1) e s := by
  unfold q34a at hch
  have main := fun y h => LB_run (x := (⟨t21⟩ : S34a)) (y := y) (nb := 13) (fun y => by cases y <;> simp [ou34a]) (rnd34a os t19 t20 m1) h
  obtain ⟨x, hx, hg, rfl, rfl⟩ := chosen_any hch
  simp only [List.mem_cons, List.not_mem_nil, or_false] at hx
  rcases hx with rfl | rfl
  · exact main _ (is34a_0 os t19 t20 m1 t21 hg)
  · exact main _ (is34a_1 os t19 t20 m1 t21 hg)
theorem lok34a {st : St} {outs : List (Bool × Ex × St)} {e : Ex} {s : St} {lo : Nat} (hlo : lo ≤ st.nx) (hl : l34a st = some outs) (hch : Chosen outs e s) :
    ∃ keep nb, lo ≤ nb ∧ LB Try.prog SW5 (ro 34) L34 lp34a [false, true, false, true, true] keep nb st e s := by
  unfold l34a at hl
  obtain ⟨ls, hno, rfl⟩ := qget_some hl
  obtain ⟨hnx, hno⟩ := normV_norm hno
  refine ⟨_, _, ?_, .enterQ hno (s2 := s34a (lLL ls 0) (lLL ls 1) (lI ls 2) (lI ls 3) (lI ls 4)) (by kernel_rfl) (lokb34a _ _ _ _ _ hch)⟩
  exact hnx ▸ hlo
theorem is34ba_0 (os : List (List AV)) (t46 m1 m25_0 m25_1 m25_2 m25_3 m29_0 m29_1 m29_2 m29_3 t47 : Int) (m13 : Bool) (h : i34ba_0 os t46 m1 m25_0 m25_1 m25_2 m25_3 m29_0 m29_1 m29_2 m29_3 t47 m13 = true) : r34ba os t46 m1 m25_0 m25_1 m25_2 m25_3 m29_0 m29_1 m29_2 m29_3 t47 m13 = some (.x0 (v34ba_0_t47 os t46 m1 m25_0 m25_1 m25_2 m25_3 m29_0 m29_1 m29_2 m29_3 t47 m13) (v34ba_0_m1' os t46 m1 m25_0 m25_1 m25_2 m25_3 m29_0 m29_1 m29_2 m29_3 t47 m13) (v34ba_0_m13 os t46 m1 m25_0 m25_1 m25_2 m25_3 m29_0 m29_1 m29_2 m29_3 t47 m13)) := by
  unfold i34ba_0 at h
  unfold v34ba_0_t47 v34ba_0_m1' v34ba_0_m13
  generalize r34ba os t46 m1 m25_0 m25_1 m25_2 m25_3 m29_0 m29_1 m29_2 m29_3 t47 m13 = r at h ⊢
  rcases r with _ | y
  · cases h
  · cases y <;> first | rfl | cases h
theorem is34ba_1 (os : List (List AV)) (t46 m1 m25_0 m25_1 m25_2 m25_3 m29_0 m29_1 m29_2 m29_3 t47 : Int) (m13 : Bool) (h : i34ba_1 os t46 m1 m25_0 m25_1 m25_2 m25_3 m29_0 m29_1 m29_2 m29_3 t47 m13 = true) : r34ba os t46 m1 m25_0 m25_1 m25_2 m25_3 m29_0 m29_1 m29_2 m29_3 t47 m13 = some (.x1 (v34ba_1_t47 os t46 m1 m25_0 m25_1 m25_2 m25_3 m29_0 m29_1 m29_2 m29_3 t47 m13) (v34ba_1_m13 os t46 m1 m25_0 m25_1 m25_2 m25_3 m29_0 m29_1 m29_2 m29_3 t47 m13)) := by
  unfold i34ba_1 at h
  unfold v34ba_1_t47 v34ba_1_m13
  generalize r34ba os t46 m1 m25_0 m25_1 m25_2 m25_3 m29_0 m29_1 m29_2 m29_3 t47 m13 = r at h ⊢
  rcases r with _ | y
  · cases h
  · cases y <;> first | rfl | cases h
theorem round34ba (os : List (List AV)) (t46 t47 m1 : Int) (m13 : Bool) (m25_0 m25_1 m25_2 m25_3 m29_0 m29_1 m29_2 m29_3 : Int) : round Try.prog SW5 (ro 34) L34 lp34ba [false, true, false, false, true, false, true, false, true, true, true, true, true] [(2, none), (5, none), (6, none), (7, none), (45, none), (46, none), (47, none)] 34 (s34ba os t46 t47 m1 m13 m25_0 m25_1 m25_2 m25_3 m29_0 m29_1 m29_2 m29_3) =
    cond (decide (t47 < t46)) (cond (inb t47 os.length) (cond (decide (w42_0 m29_0 m29_1 m29_2 m29_3 (fI (os.getD t47.toNat []) 0) (fI (os.getD t47.toNat []) 1) < 0)) (some (.ret, o34ba_0 os t46 m1 m25_0 m25_1 m25_2 m25_3 m29_0 m29_1 m29_2 m29_3 t47 9 m13)) (cond (decide (w42_0 m29_0 m29_1 m29_2 m29_3 (fI (os.getD t47.toNat []) 0) (fI (os.getD t47.toNat []) 1) > 0)) (some (.nrm, s34ba os t46 (IntKind.i64.wrap (t47 + 1)) m1 true m25_0 m25_1 m25_2 m25_3 m29_0 m29_1 m29_2 m29_3)) (some (.nrm, s34ba os t46 (IntKind.i64.wrap (t47 + 1)) m1 m13 m25_0 m25_1 m25_2 m25_3 m29_0 m29_1 m29_2 m29_3)))) (none)) (some (.ext 4, o34ba_1 os t46 m1 m25_0 m25_1 m25_2 m25_3 m29_0 m29_1 m29_2 m29_3 t47 m13)) := by kernel_rfl
theorem rnd34ba (os : List (List AV)) (t46 m1 m25_0 m25_1 m25_2 m25_3 m29_0 m29_1 m29_2 m29_3 : Int) (x : S34ba) : round Try.prog SW5 (ro 34) L34 lp34ba [false, true, false, false, true, false, true, false, true, true, true, true, true] [(2, none), (5, none), (6, none), (7, none), (45, none), (46, none), (47, none)] 34 ((fun x => s34ba os t46 x.t47 m1 x.m13 m25_0 m25_1 m25_2 m25_3 m29_0 m29_1 m29_2 m29_3) x) = toR (fun x => s34ba os t46 x.t47 m1 x.m13 m25_0 m25_1 m25_2 m25_3 m29_0 m29_1 m29_2 m29_3) (ou34ba os t46 m1 m25_0 m25_1 m25_2 m25_3 m29_0 m29_1 m29_2 m29_3) (stp34ba os t46 m1 m25_0 m25_1 m25_2 m25_3 m29_0 m29_1 m29_2 m29_3 x.t47 x.m13) := by
  refine (round34ba _ _ _ _ _ _ _ _ _ _ _ _ _ ).trans ?_
  unfold stp34ba
  simp only [toR_cond]
  rfl
theorem lokb34ba (os : List (List AV)) (t46 t47 m1 : Int) (m13 : Bool) (m25_0 m25_1 m25_2 m25_3 m29_0 m29_1 m29_2 m29_3 : Int) {e : Ex} {s : St} (hch : Chosen (q34ba os t46 t47 m1 m13 m25_0 m25_1 m25_2 m25_3 m29_0 m29_1 m29_2 m29_3) e s) : LB Try.prog SW5 (ro 34) L34 lp34ba [false, true, false, false, true, false, true, false, true, true, true, true, true] [(2, none), (5, none), (6, none), (7, none), (45, none), (46, none), (47, none)] 34 (s34ba os t46 t47 m1 m13 m25_0 m25_1 m25_2 m25_3 m29_0 m29_1 m29_2 m29_3) e s := by
  unfold q34ba at hch
  have main := fun y h => LB_run (x := (⟨t47, m13⟩ : S34ba)) (y := y) (nb := 34) (fun y => by cases y <;> simp [ou34ba]) (rnd34ba os t46 m1 m25_0 m25_1 m25_2 m25_3 m29_0 m29_1 m29_2 m29_3) h
  obtain ⟨x, hx, hg, rfl, rfl⟩ := chosen_any hch
  simp only [List.mem_cons, List.not_mem_nil, or_false] at hx
  rcases hx with rfl | rfl
  · exact main _ (is34ba_0 os t46 m1 m25_0 m25_1 m25_2 m25_3 m29_0 m29_1 m29_2 m29_3 t47 m13 hg)
  · exact main _ (is34ba_1 os t46 m1 m25_0 m25_1 m25_2 m25_3 m29_0 m29_1 m29_2 m29_3 t47 m13 hg)
theorem lok34ba {st : St} {outs : List (Bool × Ex × St)} {e : Ex} {s : St} {lo : Nat} (hlo : lo ≤ st.nx) (hl : l34ba st = some outs) (hch : Chosen outs e s) :
    ∃ keep nb, lo ≤ nb ∧ LB Try.prog SW5 (ro 34) L34 lp34ba [false, true, false, false, true, false, true, false, true, true, true, true, true] keep nb st e s := by
  unfold l34ba at hl
  obtain ⟨ls, hno, rfl⟩ := qget_some hl
  obtain ⟨hnx, hno⟩ := normV_norm hno
  refine ⟨_, _, ?_, .enterQ hno (s2 := s34ba (lLL ls 0) (lI ls 1) (lI ls 2) (lI ls 3) (lB ls 4) (lI ls 5) (lI ls 6) (lI ls 7) (lI ls 8) (lI ls 9) (lI ls 10) (lI ls 11) (lI ls 12)) (by kernel_rfl) (lokb34ba _ _ _ _ _ _ _ _ _ _ _ _ _ hch)⟩
  exact hnx ▸ hlo
theorem is34b_0 (os t43 : List (List AV)) (m1 : Int) (m13 : Bool) (m25_0 m25_1 m25_2 m25_3 : Int) (es : List (List AV)) (h : i34b_0 os t43 m1 m13 m25_0 m25_1 m25_2 m25_3 es = true) : r34b os t43 m1 m13 m25_0 m25_1 m25_2 m25_3 es = some (.inl ⟨(v34b_0_m13 os t43 m1 m13 m25_0 m25_1 m25_2 m25_3 es), (v34b_0_m25_0 os t43 m1 m13 m25_0 m25_1 m25_2 m25_3 es), (v34b_0_m25_1 os t43 m1 m13 m25_0 m25_1 m25_2 m25_3 es), (v34b_0_m25_2 os t43 m1 m13 m25_0 m25_1 m25_2 m25_3 es), (v34b_0_m25_3 os t43 m1 m13 m25_0 m25_1 m25_2 m25_3 es)⟩) := by
  unfold i34b_0 at h
  unfold v34b_0_m13 v34b_0_m25_0 v34b_0_m25_1 v34b_0_m25_2 v34b_0_m25_3
  generalize r34b os t43 m1 m13 m25_0 m25_1 m25_2 m25_3 es = r at h ⊢
  rcases r with _ | y
  · cases h
  · rcases y with y | y <;> first | rfl | (cases h; done) | (cases y <;> first | rfl | cases h)
theorem is34b_1 (os t43 : List (List AV)) (m1 : Int) (m13 : Bool) (m25_0 m25_1 m25_2 m25_3 : Int) (es : List (List AV)) (h : i34b_1 os t43 m1 m13 m25_0 m25_1 m25_2 m25_3 es = true) : r34b os t43 m1 m13 m25_0 m25_1 m25_2 m25_3 es = some (.inr (.x0 (v34b_1_m1' os t43 m1 m13 m25_0 m25_1 m25_2 m25_3 es) (v34b_1_m13 os t43 m1 m13 m25_0 m25_1 m25_2 m25_3 es) (v34b_1_m25_0 os t43 m1 m13 m25_0 m25_1 m25_2 m25_3 es) (v34b_1_m25_1 os t43 m1 m13 m25_0 m25_1 m25_2 m25_3 es) (v34b_1_m25_2 os t43 m1 m13 m25_0 m25_1 m25_2 m25_3 es) (v34b_1_m25_3 os t43 m1 m13 m25_0 m25_1 m25_2 m25_3 es))) := by
  unfold i34b_1 at h
  unfold v34b_1_m1' v34b_1_m13 v34b_1_m25_0 v34b_1_m25_1 v34b_1_m25_2 v34b_1_m25_3
  generalize r34b os t43 m1 m13 m25_0 m25_1 m25_2 m25_3 es = r at h ⊢
  rcases r with _ | y
  · cases h
  · rcases y with y | y <;> first | rfl | (cases h; done) | (cases y <;> first | rfl | cases h)
theorem round34b (os t43 : List (List AV)) (m1 : Int) (m13 : Bool) (m25_0 m25_1 m25_2 m25_3 : Int) (it : List AV) : roundF Try.prog SW5 (ro 34) L34 [44] as34b bd34b [false, true, false, true, true, true, true, true] 29 (s34b os t43 m1 m13 m25_0 m25_1 m25_2 m25_3) (encS it) =
    cond (i34ba_0 os (↑os.length : Int) m1 m25_0 m25_1 m25_2 m25_3 (fI it 0) (fI it 1) (fI it 2) (fI it 3) 0 m13) (some (.ret, o34b_0 os t43 m1 (v34ba_0_m1' os (↑os.length : Int) m1 m25_0 m25_1 m25_2 m25_3 (fI it 0) (fI it 1) (fI it 2) (fI it 3) 0 m13) (v34ba_0_m13 os (↑os.length : Int) m1 m25_0 m25_1 m25_2 m25_3 (fI it 0) (fI it 1) (fI it 2) (fI it 3) 0 m13) m25_0 m25_1 m25_2 m25_3)) (cond (i34ba_1 os (↑os.length : Int) m1 m25_0 m25_1 m25_2 m25_3 (fI it 0) (fI it 1) (fI it 2) (fI it 3) 0 m13) (cond (w42_0 m25_0 m25_1 m25_2 m25_3 (fI it 2) (fI it 3) == 0) (cond (decide (IntKind.i64.wrap (IntKind.i64.wrap (IntKind.i64.wrap (m25_2 - m25_0) * IntKind.i64.wrap (fI it 2 - fI it 0)) + IntKind.i64.wrap (IntKind.i64.wrap (m25_3 - m25_1) * IntKind.i64.wrap (fI it 3 - fI it 1))) < 0)) (some (.ret, o34b_0 os t43 m1 9 (v34ba_1_m13 os (↑os.length : Int) m1 m25_0 m25_1 m25_2 m25_3 (fI it 0) (fI it 1) (fI it 2) (fI it 3) 0 m13) m25_0 m25_1 m25_2 m25_3)) (some (.nrm, s34b os t43 m1 (v34ba_1_m13 os (↑os.length : Int) m1 m25_0 m25_1 m25_2 m25_3 (fI it 0) (fI it 1) (fI it 2) (fI it 3) 0 m13) (fI it 0) (fI it 1) (fI it 2) (fI it 3)))) (some (.nrm, s34b os t43 m1 (v34ba_1_m13 os (↑os.length : Int) m1 m25_0 m25_1 m25_2 m25_3 (fI it 0) (fI it 1) (fI it 2) (fI it 3) 0 m13) (fI it 0) (fI it 1) (fI it 2) (fI it 3)))) (none)) := by kernel_rfl
theorem rnd34b (os t43 : List (List AV)) (m1 : Int) (x : S34b) (it : List AV) : roundF Try.prog SW5 (ro 34) L34 [44] as34b bd34b [false, true, false, true, true, true, true, true] 29 ((fun x => s34b os t43 m1 x.m13 x.m25_0 x.m25_1 x.m25_2 x.m25_3) x) (encS it) = toR (fun x => s34b os t43 m1 x.m13 x.m25_0 x.m25_1 x.m25_2 x.m25_3) (ou34b os t43 m1) (stp34b os t43 m1 x.m13 x.m25_0 x.m25_1 x.m25_2 x.m25_3 it) := by
  refine (round34b _ _ _ _ _ _ _ _ _ ).trans ?_
  unfold stp34b
  simp only [toR_cond]
  rfl
theorem lok34b {st : St} {outs : List (Bool × Ex × St)} {e : Ex} {s : St} {lo : Nat} (hlo : lo ≤ st.nx) (hl : l34b st = some outs) (hch : Chosen outs e s) :
    ∃ keep nb, lo ≤ nb ∧ RB Try.prog SW5 (ro 34) L34 (.tmp 43) [44] as34b bd34b [false, true, false, true, true, true, true, true] keep nb st e s := by
  unfold l34b at hl
  split at hl
  · rename_i os t43 m1 m13 m25_0 m25_1 m25_2 m25_3 es hno hgf
    cases hl
    obtain ⟨hnx, hno⟩ := normV_norm hno
    obtain ⟨x, hx, hg, rfl, rfl⟩ := chosen_any hch
    simp only [List.mem_cons, List.not_mem_nil, or_false] at hx
    have hgg : okS es = true := by
      rcases hx with rfl | rfl
      all_goals exact (Bool.and_eq_true_iff.1 hg).1
    have main := fun y h => rounds_iter (x := (⟨m13, m25_0, m25_1, m25_2, m25_3⟩ : S34b)) (y := y) (nb := 29) (fun y => by cases y <;> simp [ou34b]) (rnd34b os t43 m1) (xs := sidesX es) h
    refine ⟨_, _, hnx ▸ hlo, _, _, (sidesX es).map encS, _, hgf, by kernel_rfl, sides_con hgg, fun x hx => encS_len hx, fun q hq => ?_, hno, rfl, ?_⟩
    · have hn := norm_nt hno
      simp only [List.mem_cons, List.not_mem_nil, or_false] at hq
      subst hq
      rw [← hn]
      exact Nat.le_of_ble_eq_true rfl
    rw [show liveOnly Try.prog { t := (([(1, none), (2, none), (5, none), (6, none), (43, none)] : List (Nat × Option TypeId)).map Prod.fst).zip [.rp [.sl 32] [.rs 32 os] 0, .p 1 0 0, .p 13 0 0, .p 25 0 0, .fn 60 [.rp [.sl 32] [.rs 32 t43] 0]], m := (0, .dead) :: (1, .row 35 [[.i .i64 m1]]) :: (2, .dead) :: (3, .dead) :: (4, .dead) :: (5, .dead) :: (6, .dead) :: (7, .dead) :: (8, .dead) :: (9, .dead) :: (10, .dead) :: (11, .dead) :: (12, .dead) :: (13, .row 4 [[.b m13]]) :: (14, .dead) :: (15, .dead) :: (16, .dead) :: (17, .dead) :: (18, .dead) :: (19, .dead) :: (20, .dead) :: (21, .dead) :: (22, .dead) :: (23, .dead) :: (24, .dead) :: (25, .row 87 [[.i .i64 m25_0, .i .i64 m25_1, .i .i64 m25_2, .i .i64 m25_3]]) :: (26, .dead) :: (27, .dead) :: (28, .dead) :: [], nx := 29, nt := 103 } = s34b os t43 m1 m13 m25_0 m25_1 m25_2 m25_3 from by kernel_rfl]
    rcases hx with rfl | rfl
    · exact main _ (is34b_0 os t43 m1 m13 m25_0 m25_1 m25_2 m25_3 es (Bool.and_eq_true_iff.1 hg).2)
    · exact main _ (is34b_1 os t43 m1 m13 m25_0 m25_1 m25_2 m25_3 es (Bool.and_eq_true_iff.1 hg).2)
  · cases hl
theorem L34_ok (q : Pl) (c : Code) (hq : locate c34 q.reverse = some (.loop c)) (lo : Nat) (st : St) (outs : List (Bool × Ex × St)) (e : Ex) (s : St) (hlo : lo ≤ st.nx) (hl : L34 q st = some outs) (hch : Chosen outs e s) :
    ∃ keep nb, lo ≤ nb ∧ LB Try.prog SW5 (ro 34) L34 c q keep nb st e s := by
  unfold L34 at hl
  split at hl
  · have : locate c34 ([false, true, false, true, true] : Pl).reverse = some (.loop lp34a) := by kernel_rfl
    rw [this] at hq
    cases hq
    exact lok34a hlo hl hch
  · have : locate c34 ([false, true, false, false, true, false, true, false, true, true, true, true, true] : Pl).reverse = some (.loop lp34ba) := by kernel_rfl
    rw [this] at hq
    cases hq
    exact lok34ba hlo hl hch
  · have : locate c34 ([false, true, false, true, true, true, true, true] : Pl).reverse = some (.rangeFunc (.tmp 43) #[44] as34b bd34b) := by kernel_rfl
    rw [this] at hq
    cases hq
  · cases hl
theorem L34_okR (q : Pl) (g : Operand) (ps : Array Nat) (a b : Code) (hq : locate c34 q.reverse = some (.rangeFunc g ps a b)) (lo : Nat) (st : St) (outs : List (Bool × Ex × St)) (e : Ex) (s : St) (hlo : lo ≤ st.nx) (hl : L34 q st = some outs) (hch : Chosen outs e s) :
    ∃ keep nb, lo ≤ nb ∧ RB Try.prog SW5 (ro 34) L34 g ps.toList a b q keep nb st e s := by
  unfold L34 at hl
  split at hl
  · have : locate c34 ([false, true, false, true, true] : Pl).reverse = some (.loop lp34a) := by kernel_rfl
    rw [this] at hq
    cases hq
  · have : locate c34 ([false, true, false, false, true, false, true, false, true, true, true, true, true] : Pl).reverse = some (.loop lp34ba) := by kernel_rfl
    rw [this] at hq
    cases hq
  · have : locate c34 ([false, true, false, true, true, true, true, true] : Pl).reverse = some (.rangeFunc (.tmp 43) #[44] as34b bd34b) := by kernel_rfl
    rw [this] at hq
    cases hq
    exact lok34b hlo hl hch
  · cases hl
theorem lok34 : LOK Try.prog SW5 (ro 34) L34 0 false c34 [] :=
  lok_gen L34_ok L34_okR c34 [] 0 false (locate_nil _) (by kernel_rfl)
noncomputable def t34 (os : List (List AV)) : Tr ((Int)) :=
  .cn (g22 (↑os.length : Int) 3 12) (.cn (!w22_0 (↑os.length : Int) 3 12) (.lf (1)) (.cn (g56 os) (.cn (w56_0 os) (.lf (1)) (.cn (i34a_0 os os (↑os.length : Int) 0 0) (.lf (v34a_0_m1' os os (↑os.length : Int) 0 0)) (.cn (i34a_1 os os (↑os.length : Int) 0 0) (.cn (inb (IntKind.i64.wrap ((↑os.length : Int) - 1)) os.length) (.cn (inb 0 os.length) (.cn (okS (w41_0 os) && i34b_0 os (w41_0 os) 0 false (fI (os.getD (IntKind.i64.wrap ((↑os.length : Int) - 1)).toNat []) 0) (fI (os.getD (IntKind.i64.wrap ((↑os.length : Int) - 1)).toNat []) 1) (fI (os.getD 0 []) 0) (fI (os.getD 0 []) 1) (w41_0 os)) (.cn (!v34b_0_m13 os (w41_0 os) 0 false (fI (os.getD (IntKind.i64.wrap ((↑os.length : Int) - 1)).toNat []) 0) (fI (os.getD (IntKind.i64.wrap ((↑os.length : Int) - 1)).toNat []) 1) (fI (os.getD 0 []) 0) (fI (os.getD 0 []) 1) (w41_0 os)) (.lf (9)) (.lf (0))) (.cn (okS (w41_0 os) && i34b_1 os (w41_0 os) 0 false (fI (os.getD (IntKind.i64.wrap ((↑os.length : Int) - 1)).toNat []) 0) (fI (os.getD (IntKind.i64.wrap ((↑os.length : Int) - 1)).toNat []) 1) (fI (os.getD 0 []) 0) (fI (os.getD 0 []) 1) (w41_0 os)) (.lf (v34b_1_m1' os (w41_0 os) 0 false (fI (os.getD (IntKind.i64.wrap ((↑os.length : Int) - 1)).toNat []) 0) (fI (os.getD (IntKind.i64.wrap ((↑os.length : Int) - 1)).toNat []) 1) (fI (os.getD 0 []) 0) (fI (os.getD 0 []) 1) (w41_0 os))) (.nn))) (.nn)) (.nn)) (.nn)))) (.nn))) (.nn)
noncomputable def g34 (os : List (List AV)) : Bool := (t34 os).g
noncomputable def w34_0 (os : List (List AV)) : Int := (t34 os).val
theorem eq34 (os : List (List AV)) : evF Try.prog SW5 (ro 34) L34 Try.f34 [.rs 32 os] = (t34 os).opt (fun (x : (Int)) => (.i .i64 x : AV)) := by kernel_rfl
theorem con34 (os : List (List AV)) (h : g34 os = true) : Con Try.prog 34 [.rs 32 os] [] (.i .i64 (w34_0 os)) [] :=
  con_of SW5_ok mixed Try.func34 (c := c34) rfl (names 34 _ Try.func34) lok34 ((eq34 os).trans (Tr.sound _ _ h))
noncomputable def e34 (args : List AV) (rows : List Blk) : Option (Bool × AV × List Blk) := match args, rows with
  | [.rs 32 os], [] => some (g34 os, .i .i64 (w34_0 os), [])
  | _, _ => none
theorem e34_ok (args : List AV) (rows : List Blk) (pre : Bool) (v : AV) (rows' : List Blk) (h : e34 args rows = some (pre, v, rows')) (hp : pre = true) : Con Try.prog 34 args rows v rows' := by
  unfold e34 at h
  split at h
  · cases h; exact con34 _ hp
  · cases h
-- SPEC 34
end Go.Proofs.Ytoglnllbopcejaa

set_option maxRecDepth 100000
set_option linter.unusedVariables false
namespace Go.Proofs.Ytoglnllbopcejaa
open Go Go.Ev

theorem sX (es : List (List AV)) (i j : Nat) : fI (sideX es i j) 0 = fI (es.getD i []) 0 ∧ fI (sideX es i j) 1 = fI (es.getD i []) 1 ∧ fI (sideX es i j) 2 = fI (es.getD j []) 0 ∧ fI (sideX es i j) 3 = fI (es.getD j []) 1 := ⟨rfl, rfl, rfl, rfl⟩
theorem k21 (os hs : List (List AV)) (u v : Int) (ho : okS os = true) (hh : hs.length < 9223372036854775807) : g21 os hs u v = true ∧ w21_0 os hs u v = hasB os hs u v := by
  have ha : r21a os hs u v os false os = some (cond (anyN (negS os u v) os.length) (.inr (.x0 false)) (.inl ⟨⟩)) := by
    have := iterR_find (step := fun x it => stp21a os hs u v os false it) [] (sidesX os) (fun _ => (⟨⟩ : S21a)) (negS os u v) (fun _ => T21a.x0 false) (fun k hk => by
      rw [sidesX_len] at hk
      rw [sidesX_at hk]
      unfold stp21a negS leftS cU cV
      simp only [sX, k42])
    rw [sidesX_len] at this
    exact this
  refine TrP.ok (t := t21 os hs u v) (p := fun x => x = hasB os hs u v) ?_
  unfold t21 hasB i21a_0 i21a_1 v21a_1_m2'
  rw [k41, ho, ha, (k35b hs u v hh).1, (k35b hs u v hh).2]
  refine .t (k40 u v).1 ?_
  rw [(k40 u v).2]
  cases plB u v
  · exact .t rfl rfl
  · refine .f rfl ?_
    cases anyN (negS os u v) os.length
    · exact .t rfl (.t rfl rfl)
    · exact .f rfl (.t rfl rfl)

theorem r34a_eq (os : List (List AV)) (hl : os.length ≤ 12) : r34a os os (os.length : Int) 0 0 = some (cond (anyN (twiceW os) os.length) (.x0 ((firstN (twiceW os) os.length : Nat) : Int) 6) (.x1 (os.length : Int))) := by
  refine run_find (n := os.length) (fun k => (⟨(k : Int)⟩ : S34a)) (twiceW os) (fun k => T34a.x0 (k : Int) 6) _ (fun k hk => ?_) ?_
  · have hlen : (List.drop 0 (List.take k os)).length = k := by simp; omega
    have hd : decide (0 ≤ (k : Int)) = true := decide_eq_true (by omega)
    have hd2 : decide ((k : Int) ≤ (os.length : Int)) = true := decide_eq_true (by omega)
    unfold stp34a twiceW pU pV cU cV
    simp only [lt_true hk, inb_true hk, wrap_succ (show k < 9223372036854775807 by omega), Int.toNat_natCast, cond_true, (k58 (List.drop 0 (List.take k os)) _ _ (by omega)).1, (k58 (List.drop 0 (List.take k os)) _ _ (by omega)).2, hlen, hd, hd2, Bool.and_true]
    rfl
  · unfold stp34a
    rw [lt_false]; rfl
theorem r34ba_eq (os : List (List AV)) (hl : os.length ≤ 12) (m1 a b c d : Int) (i : Nat) (z : Bool) : r34ba os (os.length : Int) m1 a b c d (fI (os.getD i []) 0) (fI (os.getD i []) 1) (fI (os.getD ((i + 1) % os.length) []) 0) (fI (os.getD ((i + 1) % os.length) []) 1) 0 z =
    some (cond (anyN (negP os i) os.length) (.x0 ((firstN (negP os i) os.length : Nat) : Int) 9 (z || anyN (posP os i) (firstN (negP os i) os.length))) (.x1 (os.length : Int) (z || anyN (posP os i) os.length))) := by
  have := run_find (step := fun x => stp34ba os (os.length : Int) m1 a b c d (fI (os.getD i []) 0) (fI (os.getD i []) 1) (fI (os.getD ((i + 1) % os.length) []) 0) (fI (os.getD ((i + 1) % os.length) []) 1) x.t47 x.m13) (n := os.length)
    (fun k => (⟨(k : Int), z || anyN (posP os i) k⟩ : S34ba)) (negP os i) (fun k => T34ba.x0 (k : Int) 9 (z || anyN (posP os i) k)) (.x1 (os.length : Int) (z || anyN (posP os i) os.length)) (fun k hk => ?_) ?_
  · unfold r34ba
    rw [← this]
    simp [anyN]
  · simp only [anyN_snoc]
    unfold stp34ba negP
    have e : posP os i k = decide (leftI (fI (os.getD i []) 0) (fI (os.getD i []) 1) (fI (os.getD ((i + 1) % os.length) []) 0) (fI (os.getD ((i + 1) % os.length) []) 1) (fI (os.getD k []) 0) (fI (os.getD k []) 1) > 0) := by
      unfold posP leftS pU pV cU cV
      rfl
    rw [e]
    unfold leftS pU pV cU cV
    simp only [lt_true hk, inb_true hk, wrap_succ (show k < 9223372036854775807 by omega), Int.toNat_natCast, cond_true, k42]
    generalize leftI (fI (os.getD i []) 0) (fI (os.getD i []) 1) (fI (os.getD ((i + 1) % os.length) []) 0) (fI (os.getD ((i + 1) % os.length) []) 1) (fI (os.getD k []) 0) (fI (os.getD k []) 1) = x
    cases decide (x < 0) <;> cases decide (x > 0) <;> simp
  · unfold stp34ba
    rw [lt_false]; rfl
theorem k34 (os : List (List AV)) (ho : okS os = true) : g34 os = true ∧ w34_0 os = outW os := by
  have hlen : os.length < 9223372036854775807 := by
    have := Nat.le_of_ble_eq_true (Bool.and_eq_true_iff.1 ho).1
    omega
  refine TrP.ok (t := t34 os) (p := fun x => x = outW os) ?_
  unfold t34 outW
  refine .t (k22 _ _ _).1 ?_
  rw [(k22 _ _ _).2, (k56 os hlen).1, (k56 os hlen).2]
  cases h0 : !inB (os.length : Nat) 3 12
  · obtain ⟨h3, h12⟩ := inB_len h0
    have h1 : 0 < os.length := by omega
    refine .f rfl (.t rfl ?_)
    have hb : r34b os os 0 false (fI (os.getD (os.length - 1) []) 0) (fI (os.getD (os.length - 1) []) 1) (fI (os.getD 0 []) 0) (fI (os.getD 0 []) 1) os =
        some (cond (anyN (badW os) os.length) (.inr ((fun k => T34b.x0 9 (cond (anyN (negP os k) os.length) (anyN (fun i => anyN (posP os i) os.length) k || anyN (posP os k) (firstN (negP os k) os.length)) (anyN (fun i => anyN (posP os i) os.length) k || anyN (posP os k) os.length)) (pU os (prv os k)) (pV os (prv os k)) (pU os (k % os.length)) (pV os (k % os.length))) (firstN (badW os) os.length)))
          (.inl ⟨anyN (fun i => anyN (posP os i) os.length) os.length, pU os (prv os os.length), pV os (prv os os.length), pU os (os.length % os.length), pV os (os.length % os.length)⟩)) := by
      have := iterR_find (step := fun x it => stp34b os os 0 x.m13 x.m25_0 x.m25_1 x.m25_2 x.m25_3 it) [] (sidesX os) (fun k => (⟨anyN (fun i => anyN (posP os i) os.length) k, pU os (prv os k), pV os (prv os k), pU os (k % os.length), pV os (k % os.length)⟩ : S34b)) (badW os)
        (fun k => T34b.x0 9 (cond (anyN (negP os k) os.length) (anyN (fun i => anyN (posP os i) os.length) k || anyN (posP os k) (firstN (negP os k) os.length)) (anyN (fun i => anyN (posP os i) os.length) k || anyN (posP os k) os.length)) (pU os (prv os k)) (pV os (prv os k)) (pU os (k % os.length)) (pV os (k % os.length))) (fun k hk => ?_)
      · rw [sidesX_len] at this
        unfold r34b
        rw [← this, Nat.mod_eq_of_lt h1, prv_zero h1]
        rfl
      · rw [sidesX_len] at hk
        rw [sidesX_at hk]
        unfold stp34b i34ba_0 i34ba_1 v34ba_0_m1' v34ba_0_m13 v34ba_1_m13
        simp only [sX, r34ba_eq os h12]
        simp only [prv_succ hk, anyN_snoc, k42, Nat.mod_eq_of_lt hk]
        have e1 : badW os k = (anyN (negP os k) os.length || ((leftI (pU os (prv os k)) (pV os (prv os k)) (pU os k) (pV os k) (fI (os.getD ((k + 1) % os.length) []) 0) (fI (os.getD ((k + 1) % os.length) []) 1) == 0) && decide (Wr (Wr (Wr (pU os k - pU os (prv os k)) * Wr (fI (os.getD ((k + 1) % os.length) []) 0 - fI (os.getD k []) 0)) + Wr (Wr (pV os k - pV os (prv os k)) * Wr (fI (os.getD ((k + 1) % os.length) []) 1 - fI (os.getD k []) 1))) < 0))) := by
          unfold badW backI nxt pU pV cU cV
          rfl
        have e2 : pU os k = fI (os.getD k []) 0 ∧ pV os k = fI (os.getD k []) 1 ∧ pU os ((k + 1) % os.length) = fI (os.getD ((k + 1) % os.length) []) 0 ∧ pV os ((k + 1) % os.length) = fI (os.getD ((k + 1) % os.length) []) 1 := ⟨rfl, rfl, rfl, rfl⟩
        rw [e1]
        simp only [e2]
        generalize leftI (pU os (prv os k)) (pV os (prv os k)) (fI (os.getD k []) 0) (fI (os.getD k []) 1) (fI (os.getD ((k + 1) % os.length) []) 0) (fI (os.getD ((k + 1) % os.length) []) 1) = zz
        generalize (zz == 0) = b1
        generalize decide (Wr (Wr (Wr (fI (os.getD k []) 0 - pU os (prv os k)) * Wr (fI (os.getD ((k + 1) % os.length) []) 0 - fI (os.getD k []) 0)) + Wr (Wr (fI (os.getD k []) 1 - pV os (prv os k)) * Wr (fI (os.getD ((k + 1) % os.length) []) 1 - fI (os.getD k []) 1))) < 0) = b2
        cases anyN (negP os k) os.length <;> cases b1 <;> cases b2 <;> rfl
    have hw : IntKind.i64.wrap ((os.length : Int) - 1) = ((os.length - 1 : Nat) : Int) := (wrap64 (by omega) (by omega)).trans (by omega)
    unfold i34a_0 i34a_1 v34a_0_m1' i34b_0 i34b_1 v34b_0_m13 v34b_1_m1'
    rw [k41, ho, hw, Int.toNat_natCast, r34a_eq os h12, hb]
    cases anyN (ex74 os) os.length
    · refine .f rfl ?_
      cases anyN (twiceW os) os.length
      · refine .f rfl (.t rfl (.t (inb_true (by omega)) (.t (inb_true (k := 0) h1) ?_)))
        cases anyN (badW os) os.length
        · refine .t rfl ?_
          show TrP _ (.cn (!someW os) _ _)
          cases (!someW os)
          · exact .f rfl rfl
          · exact .t rfl rfl
        · exact .f rfl (.t rfl rfl)
      · exact .t rfl rfl
    · exact .t rfl rfl
  · exact .t rfl rfl

theorem k33 (os hs : List (List AV)) (st tl th : Int) (ms : List (List AV)) (u v : Int) (hl : ms.length < 9223372036854775807) : g33 os hs st tl th ms u v = true ∧ w33_0 os hs st tl th ms u v = ms.foldl (loI st u v) tl ∧ w33_1 os hs st tl th ms u v = ms.foldl (hiI st u v) th := by
  have h : r33a os hs st tl th ms u v ms (ms.length : Int) 0 0 0 tl th = some (.x0 (ms.length : Int) (ms.foldl (loI st u v) tl) (ms.foldl (hiI st u v) th)) := by
    have := run_from0 (step := fun x => stp33a os hs st tl th ms u v ms (ms.length : Int) 0 0 x.t14 x.m5_0 x.m5_1) (y := .x0 (ms.length : Int) (ms.foldl (loI st u v) tl) (ms.foldl (hiI st u v) th)) (m := ms.length)
      (fun k => (⟨(k : Int), (ms.take k).foldl (loI st u v) tl, (ms.take k).foldl (hiI st u v) th⟩ : S33a)) (fun k hk => ?_) ?_
    · exact this
    · have e : ∀ x e, loI st u v x e = bmax x (IntKind.i64.wrap (fI e 2 - IntKind.i64.wrap (st * farI u v (fI e 0) (fI e 1)))) := fun x e => by
        unfold loI distI cU cV cL; rfl
      have e' : ∀ x e, hiI st u v x e = bmin x (IntKind.i64.wrap (fI e 3 + IntKind.i64.wrap (st * farI u v (fI e 0) (fI e 1)))) := fun x e => by
        unfold hiI distI cU cV cH; rfl
      unfold stp33a
      simp only [lt_true hk, inb_true hk, wrap_succ (show k < 9223372036854775807 by omega), Int.toNat_natCast, cond_true, k55, fold_succ hk]
      rw [e, e']
    · unfold stp33a
      simp only [lt_false, List.take_length, cond_false]
  have := TrP.ok (t := t33 os hs st tl th ms u v) (p := fun x => x = (ms.foldl (loI st u v) tl, ms.foldl (hiI st u v) th)) (by
    unfold t33 i33a_0 v33a_0_m5_0 v33a_0_m5_1
    rw [h]
    exact .t rfl rfl)
  refine ⟨this.1, ?_, ?_⟩
  · unfold w33_0; rw [this.2]
  · unfold w33_1; rw [this.2]

end Go.Proofs.Ytoglnllbopcejaa

set_option maxRecDepth 100000
set_option maxHeartbeats 0
set_option linter.unusedVariables false
namespace Go.Proofs.Ytoglnllbopcejaa
open Go Go.Ev

noncomputable def c28 : Code := match Try.f28.body with | some c => c | _ => .skip
noncomputable def lp28a : Code := loopAt c28 [true, true, true, true, false, true, false]
noncomputable def s28a (os hs : List (List AV)) (st tl th : Int) (ms : List (List AV)) (t2 t4 : Int) : St :=
  { t := [(1, .rp [.sl 32, .sl 55, .int .i64, .int .i64, .int .i64, .sl 67] [.rs 32 os, .rs 55 hs, .i .i64 st, .i .i64 tl, .i .i64 th, .rs 67 ms] 0), (2, .i .i64 t2), (4, .i .i64 t4)], m := [], nx := 0, nt := 114 }
structure S28a where
  t4 : Int
inductive T28a where
  | x0 (t2' : Int) (t4 : Int)
  | x1 (t4 : Int)
noncomputable def stp28a (os hs : List (List AV)) (st tl th : Int) (ms : List (List AV)) (t2 t4 : Int) : Lp S28a T28a :=
  cond (decide (t4 < (↑hs.length : Int))) (cond (inb t4 hs.length) (cond (decide (fI (hs.getD t4.toNat []) 0 ≥ fI (hs.getD t4.toNat []) 2)) (.out (.x0 1 t4)) (cond (decide (fI (hs.getD t4.toNat []) 1 ≥ fI (hs.getD t4.toNat []) 3)) (.out (.x0 1 t4)) (.go ⟨IntKind.i64.wrap (t4 + 1)⟩))) (.bad)) (.out (.x1 t4))
noncomputable def o28a_0 (os hs : List (List AV)) (st tl th : Int) (ms : List (List AV)) (t2 t2' t4 : Int) : St :=
  { t := [(1, .rp [.sl 32, .sl 55, .int .i64, .int .i64, .int .i64, .sl 67] [.rs 32 os, .rs 55 hs, .i .i64 st, .i .i64 tl, .i .i64 th, .rs 67 ms] 0), (2, .i .i64 t2'), (4, .i .i64 t4)], m := [], nx := 0, nt := 114 }
noncomputable def o28a_1 (os hs : List (List AV)) (st tl th : Int) (ms : List (List AV)) (t2 t4 : Int) : St :=
  { t := [(1, .rp [.sl 32, .sl 55, .int .i64, .int .i64, .int .i64, .sl 67] [.rs 32 os, .rs 55 hs, .i .i64 st, .i .i64 tl, .i .i64 th, .rs 67 ms] 0), (2, .i .i64 t2), (4, .i .i64 t4)], m := [], nx := 0, nt := 114 }
noncomputable def ou28a (os hs : List (List AV)) (st tl th : Int) (ms : List (List AV)) (t2 : Int) : T28a → Ex × St
  | .x0 t2' t4 => (.ret, o28a_0 os hs st tl th ms t2 t2' t4)
  | .x1 t4 => (.ext 0, o28a_1 os hs st tl th ms t2 t4)
noncomputable def r28a (os hs : List (List AV)) (st tl th : Int) (ms : List (List AV)) (t2 t4 : Int) : Option T28a := run (fun x => stp28a os hs st tl th ms t2 x.t4) (⟨t4⟩ : S28a)
noncomputable def i28a_0 (os hs : List (List AV)) (st tl th : Int) (ms : List (List AV)) (t2 t4 : Int) : Bool := match r28a os hs st tl th ms t2 t4 with
  | some (.x0 _ _) => true
  | _ => false
noncomputable def v28a_0_t2' (os hs : List (List AV)) (st tl th : Int) (ms : List (List AV)) (t2 t4 : Int) : Int := match r28a os hs st tl th ms t2 t4 with
  | some (.x0 t2' _) => t2'
  | _ => default
noncomputable def v28a_0_t4 (os hs : List (List AV)) (st tl th : Int) (ms : List (List AV)) (t2 t4 : Int) : Int := match r28a os hs st tl th ms t2 t4 with
  | some (.x0 _ t4) => t4
  | _ => default
noncomputable def i28a_1 (os hs : List (List AV)) (st tl th : Int) (ms : List (List AV)) (t2 t4 : Int) : Bool := match r28a os hs st tl th ms t2 t4 with
  | some (.x1 _) => true
  | _ => false
noncomputable def v28a_1_t4 (os hs : List (List AV)) (st tl th : Int) (ms : List (List AV)) (t2 t4 : Int) : Int := match r28a os hs st tl th ms t2 t4 with
  | some (.x1 t4) => t4
  | _ => default
noncomputable def q28a (os hs : List (List AV)) (st tl th : Int) (ms : List (List AV)) (t2 t4 : Int) : List (Bool × Ex × St) := [(i28a_0 os hs st tl th ms t2 t4, .ret, o28a_0 os hs st tl th ms t2 (v28a_0_t2' os hs st tl th ms t2 t4) (v28a_0_t4 os hs st tl th ms t2 t4)), (i28a_1 os hs st tl th ms t2 t4, .ext 0, o28a_1 os hs st tl th ms t2 (v28a_1_t4 os hs st tl th ms t2 t4))]
noncomputable def l28a (st : St) : Option (List (Bool × Ex × St)) := qget [.rp [.sl 32, .sl 55, .int .i64, .int .i64, .int .i64, .sl 67] [.rs 32, .rs 55, .i .i64, .i .i64, .i .i64, .rs 67] 0, .i .i64, .i .i64] [] 0 114 (normW Try.prog [(1, none), (2, none), (4, none)] 0 st) fun ls => q28a (lLL ls 0) (lLL ls 1) (lI ls 2) (lI ls 3) (lI ls 4) (lLL ls 5) (lI ls 6) (lI ls 7)
noncomputable def lp28b : Code := loopAt c28 [true, true, true, true, true, true, true, false, true, false]
noncomputable def s28b (os hs : List (List AV)) (st tl th : Int) (ms : List (List AV)) (t2 t6 : Int) : St :=
  { t := [(1, .rp [.sl 32, .sl 55, .int .i64, .int .i64, .int .i64, .sl 67] [.rs 32 os, .rs 55 hs, .i .i64 st, .i .i64 tl, .i .i64 th, .rs 67 ms] 0), (2, .i .i64 t2), (6, .i .i64 t6)], m := [], nx := 0, nt := 114 }
structure S28b where
  t6 : Int
inductive T28b where
  | x0 (t2' : Int) (t6 : Int)
  | x1 (t6 : Int)
noncomputable def stp28b (os hs : List (List AV)) (st tl th : Int) (ms : List (List AV)) (t2 t6 : Int) : Lp S28b T28b :=
  cond (decide (t6 < (↑ms.length : Int))) (cond (inb t6 ms.length) (cond (g29 os hs (fI (ms.getD t6.toNat []) 0) (fI (ms.getD t6.toNat []) 1)) (cond (!w29_0 os hs (fI (ms.getD t6.toNat []) 0) (fI (ms.getD t6.toNat []) 1)) (.out (.x0 7 t6)) (cond (inb t6 ms.length) (cond (g52 (fI (ms.getD t6.toNat []) 2) (fI (ms.getD t6.toNat []) 3) 2000) (cond (!w52_0 (fI (ms.getD t6.toNat []) 2) (fI (ms.getD t6.toNat []) 3) 2000) (.out (.x0 1 t6)) (.go ⟨IntKind.i64.wrap (t6 + 1)⟩)) (.bad)) (.bad))) (.bad)) (.bad)) (.out (.x1 t6))
noncomputable def o28b_0 (os hs : List (List AV)) (st tl th : Int) (ms : List (List AV)) (t2 t2' t6 : Int) : St :=
  { t := [(1, .rp [.sl 32, .sl 55, .int .i64, .int .i64, .int .i64, .sl 67] [.rs 32 os, .rs 55 hs, .i .i64 st, .i .i64 tl, .i .i64 th, .rs 67 ms] 0), (2, .i .i64 t2'), (6, .i .i64 t6)], m := [], nx := 0, nt := 114 }
noncomputable def o28b_1 (os hs : List (List AV)) (st tl th : Int) (ms : List (List AV)) (t2 t6 : Int) : St :=
  { t := [(1, .rp [.sl 32, .sl 55, .int .i64, .int .i64, .int .i64, .sl 67] [.rs 32 os, .rs 55 hs, .i .i64 st, .i .i64 tl, .i .i64 th, .rs 67 ms] 0), (2, .i .i64 t2), (6, .i .i64 t6)], m := [], nx := 0, nt := 114 }
noncomputable def ou28b (os hs : List (List AV)) (st tl th : Int) (ms : List (List AV)) (t2 : Int) : T28b → Ex × St
  | .x0 t2' t6 => (.ret, o28b_0 os hs st tl th ms t2 t2' t6)
  | .x1 t6 => (.ext 2, o28b_1 os hs st tl th ms t2 t6)
noncomputable def r28b (os hs : List (List AV)) (st tl th : Int) (ms : List (List AV)) (t2 t6 : Int) : Option T28b := run (fun x => stp28b os hs st tl th ms t2 x.t6) (⟨t6⟩ : S28b)
noncomputable def i28b_0 (os hs : List (List AV)) (st tl th : Int) (ms : List (List AV)) (t2 t6 : Int) : Bool := match r28b os hs st tl th ms t2 t6 with
  | some (.x0 _ _) => true
  | _ => false
noncomputable def v28b_0_t2' (os hs : List (List AV)) (st tl th : Int) (ms : List (List AV)) (t2 t6 : Int) : Int := match r28b os hs st tl th ms t2 t6 with
  | some (.x0 t2' _) => t2'
  | _ => default
noncomputable def v28b_0_t6 (os hs : List (List AV)) (st tl th : Int) (ms : List (List AV)) (t2 t6 : Int) : Int := match r28b os hs st tl th ms t2 t6 with
  | some (.x0 _ t6) => t6
  | _ => default
noncomputable def i28b_1 (os hs : List (List AV)) (st tl th : Int) (ms : List (List AV)) (t2 t6 : Int) : Bool := match r28b os hs st tl th ms t2 t6 with
  | some (.x1 _) => true
  | _ => false
noncomputable def v28b_1_t6 (os hs : List (List AV)) (st tl th : Int) (ms : List (List AV)) (t2 t6 : Int) : Int := match r28b os hs st tl th ms t2 t6 with
  | some (.x1 t6) => t6
  | _ => default
noncomputable def q28b (os hs : List (List AV)) (st tl th : Int) (ms : List (List AV)) (t2 t6 : Int) : List (Bool × Ex × St) := [(i28b_0 os hs st tl th ms t2 t6, .ret, o28b_0 os hs st tl th ms t2 (v28b_0_t2' os hs st tl th ms t2 t6) (v28b_0_t6 os hs st tl th ms t2 t6)), (i28b_1 os hs st tl th ms t2 t6, .ext 2, o28b_1 os hs st tl th ms t2 (v28b_1_t6 os hs st tl th ms t2 t6))]
noncomputable def l28b (st : St) : Option (List (Bool × Ex × St)) := qget [.rp [.sl 32, .sl 55, .int .i64, .int .i64, .int .i64, .sl 67] [.rs 32, .rs 55, .i .i64, .i .i64, .i .i64, .rs 67] 0, .i .i64, .i .i64] [] 0 114 (normW Try.prog [(1, none), (2, none), (6, none)] 0 st) fun ls => q28b (lLL ls 0) (lLL ls 1) (lI ls 2) (lI ls 3) (lI ls 4) (lLL ls 5) (lI ls 6) (lI ls 7)
noncomputable def lp28c : Code := loopAt c28 [true, true, true, true, true, true, true, true, false, true, false]
noncomputable def s28c (os hs : List (List AV)) (st tl th : Int) (ms : List (List AV)) (t2 t7 : Int) : St :=
  { t := [(1, .rp [.sl 32, .sl 55, .int .i64, .int .i64, .int .i64, .sl 67] [.rs 32 os, .rs 55 hs, .i .i64 st, .i .i64 tl, .i .i64 th, .rs 67 ms] 0), (2, .i .i64 t2), (7, .i .i64 t7)], m := [], nx := 0, nt := 114 }
structure S28c where
  t7 : Int
inductive T28c where
  | x0 (t2' : Int) (t7 : Int)
  | x1 (t7 : Int)
noncomputable def stp28c (os hs : List (List AV)) (st tl th : Int) (ms : List (List AV)) (t2 t7 : Int) : Lp S28c T28c :=
  cond (decide (t7 < (↑ms.length : Int))) (cond (inb t7 ms.length) (cond (inb (IntKind.i64.wrap (t7 - 1)) ms.length) (cond (g32 (fI (ms.getD t7.toNat []) 0) (fI (ms.getD t7.toNat []) 1) (fI (ms.getD (IntKind.i64.wrap (t7 - 1)).toNat []) 0) (fI (ms.getD (IntKind.i64.wrap (t7 - 1)).toNat []) 1)) (cond (!w32_0 (fI (ms.getD t7.toNat []) 0) (fI (ms.getD t7.toNat []) 1) (fI (ms.getD (IntKind.i64.wrap (t7 - 1)).toNat []) 0) (fI (ms.getD (IntKind.i64.wrap (t7 - 1)).toNat []) 1)) (.out (.x0 8 t7)) (.go ⟨IntKind.i64.wrap (t7 + 1)⟩)) (.bad)) (.bad)) (.bad)) (.out (.x1 t7))
noncomputable def o28c_0 (os hs : List (List AV)) (st tl th : Int) (ms : List (List AV)) (t2 t2' t7 : Int) : St :=
  { t := [(1, .rp [.sl 32, .sl 55, .int .i64, .int .i64, .int .i64, .sl 67] [.rs 32 os, .rs 55 hs, .i .i64 st, .i .i64 tl, .i .i64 th, .rs 67 ms] 0), (2, .i .i64 t2'), (7, .i .i64 t7)], m := [], nx := 0, nt := 114 }
noncomputable def o28c_1 (os hs : List (List AV)) (st tl th : Int) (ms : List (List AV)) (t2 t7 : Int) : St :=
  { t := [(1, .rp [.sl 32, .sl 55, .int .i64, .int .i64, .int .i64, .sl 67] [.rs 32 os, .rs 55 hs, .i .i64 st, .i .i64 tl, .i .i64 th, .rs 67 ms] 0), (2, .i .i64 t2), (7, .i .i64 t7)], m := [], nx := 0, nt := 114 }
noncomputable def ou28c (os hs : List (List AV)) (st tl th : Int) (ms : List (List AV)) (t2 : Int) : T28c → Ex × St
  | .x0 t2' t7 => (.ret, o28c_0 os hs st tl th ms t2 t2' t7)
  | .x1 t7 => (.ext 4, o28c_1 os hs st tl th ms t2 t7)
noncomputable def r28c (os hs : List (List AV)) (st tl th : Int) (ms : List (List AV)) (t2 t7 : Int) : Option T28c := run (fun x => stp28c os hs st tl th ms t2 x.t7) (⟨t7⟩ : S28c)
noncomputable def i28c_0 (os hs : List (List AV)) (st tl th : Int) (ms : List (List AV)) (t2 t7 : Int) : Bool := match r28c os hs st tl th ms t2 t7 with
  | some (.x0 _ _) => true
  | _ => false
noncomputable def v28c_0_t2' (os hs : List (List AV)) (st tl th : Int) (ms : List (List AV)) (t2 t7 : Int) : Int := match r28c os hs st tl th ms t2 t7 with
  | some (.x0 t2' _) => t2'
  | _ => default
noncomputable def v28c_0_t7 (os hs : List (List AV)) (st tl th : Int) (ms : List (List AV)) (t2 t7 : Int) : Int := match r28c os hs st tl th ms t2 t7 with
  | some (.x0 _ t7) => t7
  | _ => default
noncomputable def i28c_1 (os hs : List (List AV)) (st tl th : Int) (ms : List (List AV)) (t2 t7 : Int) : Bool := match r28c os hs st tl th ms t2 t7 with
  | some (.x1 _) => true
  | _ => false
noncomputable def v28c_1_t7 (os hs : List (List AV)) (st tl th : Int) (ms : List (List AV)) (t2 t7 : Int) : Int := match r28c os hs st tl th ms t2 t7 with
  | some (.x1 t7) => t7
  | _ => default
noncomputable def q28c (os hs : List (List AV)) (st tl th : Int) (ms : List (List AV)) (t2 t7 : Int) : List (Bool × Ex × St) := [(i28c_0 os hs st tl th ms t2 t7, .ret, o28c_0 os hs st tl th ms t2 (v28c_0_t2' os hs st tl th ms t2 t7) (v28c_0_t7 os hs st tl th ms t2 t7)), (i28c_1 os hs st tl th ms t2 t7, .ext 4, o28c_1 os hs st tl th ms t2 (v28c_1_t7 os hs st tl th ms t2 t7))]
noncomputable def l28c (st : St) : Option (List (Bool × Ex × St)) := qget [.rp [.sl 32, .sl 55, .int .i64, .int .i64, .int .i64, .sl 67] [.rs 32, .rs 55, .i .i64, .i .i64, .i .i64, .rs 67] 0, .i .i64, .i .i64] [] 0 114 (normW Try.prog [(1, none), (2, none), (7, none)] 0 st) fun ls => q28c (lLL ls 0) (lLL ls 1) (lI ls 2) (lI ls 3) (lI ls 4) (lLL ls 5) (lI ls 6) (lI ls 7)
noncomputable def L28 : LSpec := fun p st => match p with
  | [false, true, false, true, true, true, true] => l28a st
  | [false, true, false, true, true, true, true, true, true, true] => l28b st
  | [false, true, false, true, true, true, true, true, true, true, true] => l28c st
  | _ => none
theorem is28a_0 (os hs : List (List AV)) (st tl th : Int) (ms : List (List AV)) (t2 t4 : Int) (h : i28a_0 os hs st tl th ms t2 t4 = true) : r28a os hs st tl th ms t2 t4 = some (.x0 (v28a_0_t2' os hs st tl th ms t2 t4) (v28a_0_t4 os hs st tl th ms t2 t4)) := by
  unfold i28a_0 at h
  unfold v28a_0_t2' v28a_0_t4
  generalize r28a os hs st tl th ms t2 t4 = r at h ⊢
  rcases r with _ | y
  · cases h
  · cases y <;> first | rfl | cases h
theorem is28a_1 (os hs : List (List AV)) (st tl th : Int) (ms : List (List AV)) (t2 t4 : Int) (h : i28a_1 os hs st tl th ms t2 t4 = true) : r28a os hs st tl th ms t2 t4 = some (.x1 (v28a_1_t4 os hs st tl th ms t2 t4)) := by
  unfold i28a_1 at h
  unfold v28a_1_t4
  generalize r28a os hs st tl th ms t2 t4 = r at h ⊢
  rcases r with _ | y
  · cases h
  · cases y <;> first | rfl | cases h
theorem round28a (os hs : List (List AV)) (st tl th : Int) (ms : List (List AV)) (t2 t4 : Int) : round Try.prog SW5 (ro 28) L28 lp28a [false, true, false, true, true, true, true] [(1, none), (2, none), (4, none)] 0 (s28a os hs st tl th ms t2 t4) =
    cond (decide (t4 < (↑hs.length : Int))) (cond (inb t4 hs.length) (cond (decide (fI (hs.getD t4.toNat []) 0 ≥ fI (hs.getD t4.toNat []) 2)) (some (.ret, o28a_0 os hs st tl th ms t2 1 t4)) (cond (decide (fI (hs.getD t4.toNat []) 1 ≥ fI (hs.getD t4.toNat []) 3)) (some (.ret, o28a_0 os hs st tl th ms t2 1 t4)) (some (.nrm, s28a os hs st tl th ms t2 (IntKind.i64.wrap (t4 + 1)))))) (none)) (some (.ext 0, o28a_1 os hs st tl th ms t2 t4)) := by kernel_rfl
theorem rnd28a (os hs : List (List AV)) (st tl th : Int) (ms : List (List AV)) (t2 : Int) (x : S28a) : round Try.prog SW5 (ro 28) L28 lp28a [false, true, false, true, true, true, true] [(1, none), (2, none), (4, none)] 0 ((fun x => s28a os hs st tl th ms t2 x.t4) x) = toR (fun x => s28a os hs st tl th ms t2 x.t4) (ou28a os hs st tl th ms t2) (stp28a os hs st tl th ms t2 x.t4) := by
  refine (round28a _ _ _ _ _ _ _ _ ).trans ?_
  unfold stp28a
  simp only [toR_cond]
  rfl
theorem lokb28a (os hs : List (List AV)) (st tl th : Int) (ms : List (List AV)) (t2 t4 : Int) {e : Ex} {s : St} (hch : Chosen (q28a os hs st tl th ms t2 t4) e s) : LB Try.prog SW5 (ro 28) L28 lp28a [false, true, false, true, true, true, true] [(1, none), (2, none), (4, none)] 0 (s28a os hs st tl th ms t2 t4) e s := by
  unfold q28a at hch
  have main := fun y h => LB_run (x := (⟨t4⟩ : S28a)) (y := y) (nb := 0) (fun y => by cases y <;> simp [ou28a]) (rnd28a os hs st tl th ms t2) h
  obtain ⟨x, hx, hg, rfl, rfl⟩ := chosen_any hch
  simp only [List.mem_cons, List.not_mem_nil, or_false] at hx
  rcases hx with rfl | rfl
  · exact main _ (is28a_0 os hs st tl th ms t2 t4 hg)
  · exact main _ (is28a_1 os hs st tl th ms t2 t4 hg)
theorem lok28a {st : St} {outs : List (Bool × Ex × St)} {e : Ex} {s : St} (hl : l28a st = some outs) (hch : Chosen outs e s) :
    ∃ keep nb, 0 ≤ nb ∧ LB Try.prog SW5 (ro 28) L28 lp28a [false, true, false, true, true, true, true] keep nb st e s := by
  unfold l28a at hl
  obtain ⟨ls, hno, rfl⟩ := qget_some hl
  have hno := normW_norm hno
  refine ⟨_, _, ?_, .enterQ hno (s2 := s28a (lLL ls 0) (lLL ls 1) (lI ls 2) (lI ls 3) (lI ls 4) (lLL ls 5) (lI ls 6) (lI ls 7)) (by kernel_rfl) (lokb28a _ _ _ _ _ _ _ _ hch)⟩
  decide
theorem is28b_0 (os hs : List (List AV)) (st tl th : Int) (ms : List (List AV)) (t2 t6 : Int) (h : i28b_0 os hs st tl th ms t2 t6 = true) : r28b os hs st tl th ms t2 t6 = some (.x0 (v28b_0_t2' os hs st tl th ms t2 t6) (v28b_0_t6 os hs st tl th ms t2 t6)) := by
  unfold i28b_0 at h
  unfold v28b_0_t2' v28b_0_t6
  generalize r28b os hs st tl th ms t2 t6 = r at h ⊢
  rcases r with _ | y
  · cases h
  · cases y <;> first | rfl | cases h
theorem is28b_1 (os hs : List (List AV)) (st tl th : Int) (ms : List (List AV)) (t2 t6 : Int) (h : i28b_1 os hs st tl th ms t2 t6 = true) : r28b os hs st tl th ms t2 t6 = some (.x1 (v28b_1_t6 os hs st tl th ms t2 t6)) := by
  unfold i28b_1 at h
  unfold v28b_1_t6
  generalize r28b os hs st tl th ms t2 t6 = r at h ⊢
  rcases r with _ | y
  · cases h
  · cases y <;> first | rfl | cases h
theorem round28b (os hs : List (List AV)) (st tl th : Int) (ms : List (List AV)) (t2 t6 : Int) : round Try.prog SW5 (ro 28) L28 lp28b [false, true, false, true, true, true, true, true, true, true] [(1, none), (2, none), (6, none)] 0 (s28b os hs st tl th ms t2 t6) =
    cond (decide (t6 < (↑ms.length : Int))) (cond (inb t6 ms.length) (cond (g29 os hs (fI (ms.getD t6.toNat []) 0) (fI (ms.getD t6.toNat []) 1)) (cond (!w29_0 os hs (fI (ms.getD t6.toNat []) 0) (fI (ms.getD t6.toNat []) 1)) (some (.ret, o28b_0 os hs st tl th ms t2 7 t6)) (cond (inb t6 ms.length) (cond (g52 (fI (ms.getD t6.toNat []) 2) (fI (ms.getD t6.toNat []) 3) 2000) (cond (!w52_0 (fI (ms.getD t6.toNat []) 2) (fI (ms.getD t6.toNat []) 3) 2000) (some (.ret, o28b_0 os hs st tl th ms t2 1 t6)) (some (.nrm, s28b os hs st tl th ms t2 (IntKind.i64.wrap (t6 + 1))))) (none)) (none))) (none)) (none)) (some (.ext 2, o28b_1 os hs st tl th ms t2 t6)) := by kernel_rfl
theorem rnd28b (os hs : List (List AV)) (st tl th : Int) (ms : List (List AV)) (t2 : Int) (x : S28b) : round Try.prog SW5 (ro 28) L28 lp28b [false, true, false, true, true, true, true, true, true, true] [(1, none), (2, none), (6, none)] 0 ((fun x => s28b os hs st tl th ms t2 x.t6) x) = toR (fun x => s28b os hs st tl th ms t2 x.t6) (ou28b os hs st tl th ms t2) (stp28b os hs st tl th ms t2 x.t6) := by
  refine (round28b _ _ _ _ _ _ _ _ ).trans ?_
  unfold stp28b
  simp only [toR_cond]
  rfl
theorem lokb28b (os hs : List (List AV)) (st tl th : Int) (ms : List (List AV)) (t2 t6 : Int) {e : Ex} {s : St} (hch : Chosen (q28b os hs st tl th ms t2 t6) e s) : LB Try.prog SW5 (ro 28) L28 lp28b [false, true, false, true, true, true, true, true, true, true] [(1, none), (2, none), (6, none)] 0 (s28b os hs st tl th ms t2 t6) e s := by
  unfold q28b at hch
  have main := fun y h => LB_run (x := (⟨t6⟩ : S28b)) (y := y) (nb := 0) (fun y => by cases y <;> simp [ou28b]) (rnd28b os hs st tl th ms t2) h
  obtain ⟨x, hx, hg, rfl, rfl⟩ := chosen_any hch
  simp only [List.mem_cons, List.not_mem_nil, or_false] at hx
  rcases hx with rfl | rfl
  · exact main _ (is28b_0 os hs st tl th ms t2 t6 hg)
  · exact main _ (is28b_1 os hs st tl th ms t2 t6 hg)
theorem lok28b {st : St} {outs : List (Bool × Ex × St)} {e : Ex} {s : St} (hl : l28b st = some outs) (hch : Chosen outs e s) :
    ∃ keep nb, 0 ≤ nb ∧ LB Try.prog SW5 (ro 28) L28 lp28b [false, true, false, true, true, true, true, true, true, true] keep nb st e s := by
  unfold l28b at hl
  obtain ⟨ls, hno, rfl⟩ := qget_some hl
  have hno := normW_norm hno
  refine ⟨_, _, ?_, .enterQ hno (s2 := s28b (lLL ls 0) (lLL ls 1) (lI ls 2) (lI ls 3) (lI ls 4) (lLL ls 5) (lI ls 6) (lI ls 7)) (by kernel_rfl) (lokb28b _ _ _ _ _ _ _ _ hch)⟩
  decide
theorem is28c_0 (os hs : List (List AV)) (st tl th : Int) (ms : List (List AV)) (t2 t7 : Int) (h : i28c_0 os hs st tl th ms t2 t7 = true) : r28c os hs st tl th ms t2 t7 = some (.x0 (v28c_0_t2' os hs st tl th ms t2 t7) (v28c_0_t7 os hs st tl th ms t2 t7)) := by
  unfold i28c_0 at h
  unfold v28c_0_t2' v28c_0_t7
  generalize r28c os hs st tl th ms t2 t7 = r at h ⊢
  rcases r with _ | y
  · cases h
  · cases y <;> first | rfl | cases h
theorem is28c_1 (os hs : List (List AV)) (st tl th : Int) (ms : List (List AV)) (t2 t7 : Int) (h : i28c_1 os hs st tl th ms t2 t7 = true) : r28c os hs st tl th ms t2 t7 = some (.x1 (v28c_1_t7 os hs st tl th ms t2 t7)) := by
  unfold i28c_1 at h
  unfold v28c_1_t7
  generalize r28c os hs st tl th ms t2 t7 = r at h ⊢
  rcases r with _ | y
  · cases h
  · cases y <;> first | rfl | cases h
theorem round28c (os hs : List (List AV)) (st tl th : Int) (ms : List (List AV)) (t2 t7 : Int) : round Try.prog SW5 (ro 28) L28 lp28c [false, true, false, true, true, true, true, true, true, true, true] [(1, none), (2, none), (7, none)] 0 (s28c os hs st tl th ms t2 t7) =
    cond (decide (t7 < (↑ms.length : Int))) (cond (inb t7 ms.length) (cond (inb (IntKind.i64.wrap (t7 - 1)) ms.length) (cond (g32 (fI (ms.getD t7.toNat []) 0) (fI (ms.getD t7.toNat []) 1) (fI (ms.getD (IntKind.i64.wrap (t7 - 1)).toNat []) 0) (fI (ms.getD (IntKind.i64.wrap (t7 - 1)).toNat []) 1)) (cond (!w32_0 (fI (ms.getD t7.toNat []) 0) (fI (ms.getD t7.toNat []) 1) (fI (ms.getD (IntKind.i64.wrap (t7 - 1)).toNat []) 0) (fI (ms.getD (IntKind.i64.wrap (t7 - 1)).toNat []) 1)) (some (.ret, o28c_0 os hs st tl th ms t2 8 t7)) (some (.nrm, s28c os hs st tl th ms t2 (IntKind.i64.wrap (t7 + 1))))) (none)) (none)) (none)) (some (.ext 4, o28c_1 os hs st tl th ms t2 t7)) := by kernel_rfl
theorem rnd28c (os hs : List (List AV)) (st tl th : Int) (ms : List (List AV)) (t2 : Int) (x : S28c) : round Try.prog SW5 (ro 28) L28 lp28c [false, true, false, true, true, true, true, true, true, true, true] [(1, none), (2, none), (7, none)] 0 ((fun x => s28c os hs st tl th ms t2 x.t7) x) = toR (fun x => s28c os hs st tl th ms t2 x.t7) (ou28c os hs st tl th ms t2) (stp28c os hs st tl th ms t2 x.t7) := by
  refine (round28c _ _ _ _ _ _ _ _ ).trans ?_
  unfold stp28c
  simp only [toR_cond]
  rfl
theorem lokb28c (os hs : List (List AV)) (st tl th : Int) (ms : List (List AV)) (t2 t7 : Int) {e : Ex} {s : St} (hch : Chosen (q28c os hs st tl th ms t2 t7) e s) : LB Try.prog SW5 (ro 28) L28 lp28c [false, true, false, true, true, true, true, true, true, true, true] [(1, none), (2, none), (7, none)] 0 (s28c os hs st tl th ms t2 t7) e s := by
  unfold q28c at hch
  have main := fun y h => LB_run (x := (⟨t7⟩ : S28c)) (y := y) (nb := 0) (fun y => by cases y <;> simp [ou28c]) (rnd28c os hs st tl th ms t2) h
  obtain ⟨x, hx, hg, rfl, rfl⟩ := chosen_any hch
  simp only [List.mem_cons, List.not_mem_nil, or_false] at hx
  rcases hx with rfl | rfl
  · exact main _ (is28c_0 os hs st tl th ms t2 t7 hg)
  · exact main _ (is28c_1 os hs st tl th ms t2 t7 hg)
theorem lok28c {st : St} {outs : List (Bool × Ex × St)} {e : Ex} {s : St} (hl : l28c st = some outs) (hch : Chosen outs e s) :
    ∃ keep nb, 0 ≤ nb ∧ LB Try.prog SW5 (ro 28) L28 lp28c [false, true, false, true, true, true, true, true, true, true, true] keep nb st e s := by
  unfold l28c at hl
  obtain ⟨ls, hno, rfl⟩ := qget_some hl
  have hno := normW_norm hno
  refine ⟨_, _, ?_, .enterQ hno (s2 := s28c (lLL ls 0) (lLL ls 1) (lI ls 2) (lI ls 3) (lI ls 4) (lLL ls 5) (lI ls 6) (lI ls 7)) (by kernel_rfl) (lokb28c _ _ _ _ _ _ _ _ hch)⟩
  decide
theorem L28_ok (q : Pl) (c : Code) (hq : locate c28 q.reverse = some (.loop c)) (st : St) (outs : List (Bool × Ex × St)) (e : Ex) (s : St) (hl : L28 q st = some outs) (hch : Chosen outs e s) :
    ∃ keep nb, 0 ≤ nb ∧ LB Try.prog SW5 (ro 28) L28 c q keep nb st e s := by
  unfold L28 at hl
  split at hl
  · have : locate c28 ([false, true, false, true, true, true, true] : Pl).reverse = some (.loop lp28a) := by kernel_rfl
    rw [this] at hq
    cases hq
    exact lok28a hl hch
  · have : locate c28 ([false, true, false, true, true, true, true, true, true, true] : Pl).reverse = some (.loop lp28b) := by kernel_rfl
    rw [this] at hq
    cases hq
    exact lok28b hl hch
  · have : locate c28 ([false, true, false, true, true, true, true, true, true, true, true] : Pl).reverse = some (.loop lp28c) := by kernel_rfl
    rw [this] at hq
    cases hq
    exact lok28c hl hch
  · cases hl
theorem lok28 : LOK Try.prog SW5 (ro 28) L28 0 false c28 [] :=
  lok_lo L28_ok c28 [] false (locate_nil _) (by kernel_rfl)
noncomputable def t28 (os hs : List (List AV)) (st tl th : Int) (ms : List (List AV)) : Tr ((Int)) :=
  .cn (g51 os) (.cn (w51_0 os != 0) (.lf (w51_0 os)) (.cn (decide ((↑hs.length : Int) > 6)) (.lf (3)) (.cn (i28a_0 os hs st tl th ms 0 0) (.lf (v28a_0_t2' os hs st tl th ms 0 0)) (.cn (i28a_1 os hs st tl th ms 0 0) (.cn (g30 st 0 1000) (.cn (!w30_0 st 0 1000) (.lf (1)) (.cn (g52 tl th 2000) (.cn (!w52_0 tl th 2000) (.lf (1)) (.cn (decide ((↑ms.length : Int) > 40)) (.lf (3)) (.cn (i28b_0 os hs st tl th ms 0 0) (.lf (v28b_0_t2' os hs st tl th ms 0 0)) (.cn (i28b_1 os hs st tl th ms 0 0) (.cn (i28c_0 os hs st tl th ms 0 1) (.lf (v28c_0_t2' os hs st tl th ms 0 1)) (.cn (i28c_1 os hs st tl th ms 0 1) (.cn (g53 os hs st tl th ms) (.cn (!w53_0 os hs st tl th ms) (.lf (10)) (.lf (0))) (.nn)) (.nn))) (.nn))))) (.nn))) (.nn)) (.nn))))) (.nn)
noncomputable def g28 (os hs : List (List AV)) (st tl th : Int) (ms : List (List AV)) : Bool := (t28 os hs st tl th ms).g
noncomputable def w28_0 (os hs : List (List AV)) (st tl th : Int) (ms : List (List AV)) : Int := (t28 os hs st tl th ms).val
theorem eq28 (os hs : List (List AV)) (st tl th : Int) (ms : List (List AV)) : evF Try.prog SW5 (ro 28) L28 Try.f28 [.agg [.rs 32 os, .rs 55 hs, .i .i64 st, .i .i64 tl, .i .i64 th, .rs 67 ms]] = (t28 os hs st tl th ms).opt (fun (x : (Int)) => (.i .i64 x : AV)) := by kernel_rfl
theorem con28 (os hs : List (List AV)) (st tl th : Int) (ms : List (List AV)) (h : g28 os hs st tl th ms = true) : Con Try.prog 28 [.agg [.rs 32 os, .rs 55 hs, .i .i64 st, .i .i64 tl, .i .i64 th, .rs 67 ms]] [] (.i .i64 (w28_0 os hs st tl th ms)) [] :=
  con_of SW5_ok mixed Try.func28 (c := c28) rfl (names 28 _ Try.func28) lok28 ((eq28 os hs st tl th ms).trans (Tr.sound _ _ h))
noncomputable def e28 (args : List AV) (rows : List Blk) : Option (Bool × AV × List Blk) := match args, rows with
  | [.agg [.rs 32 os, .rs 55 hs, .i .i64 st, .i .i64 tl, .i .i64 th, .rs 67 ms]], [] => some (g28 os hs st tl th ms, .i .i64 (w28_0 os hs st tl th ms), [])
  | _, _ => none
theorem e28_ok (args : List AV) (rows : List Blk) (pre : Bool) (v : AV) (rows' : List Blk) (h : e28 args rows = some (pre, v, rows')) (hp : pre = true) : Con Try.prog 28 args rows v rows' := by
  unfold e28 at h
  split at h
  · cases h; exact con28 _ _ _ _ _ _ hp
  · cases h
-- SPEC 28
end Go.Proofs.Ytoglnllbopcejaa

set_option maxRecDepth 100000
set_option linter.unusedVariables false
namespace Go.Proofs.Ytoglnllbopcejaa
open Go Go.Ev
noncomputable def SW6 : Ev.Spec := insS 34 e34 (insS 28 e28 (SW5))
theorem SW6_ok : SpecOK Try.prog SW6 := insS_ok e34_ok (insS_ok e28_ok (SW5_ok))
end Go.Proofs.Ytoglnllbopcejaa

set_option maxRecDepth 100000
set_option maxHeartbeats 0
set_option linter.unusedVariables false
namespace Go.Proofs.Ytoglnllbopcejaa
open Go Go.Ev

noncomputable def c15 : Code := match Try.f15.body with | some c => c | _ => .skip
noncomputable def lp15a : Code := loopAt c15 [true, true, true, false, true, false]
noncomputable def s15a (os hs : List (List AV)) (st tl th : Int) (ms : List (List AV)) (t2 : Int) (t46 : List (List AV)) (t47 t48 : Int) : St :=
  { t := [(1, .rp [.sl 32, .sl 55, .int .i64, .int .i64, .int .i64, .sl 67] [.rs 32 os, .rs 55 hs, .i .i64 st, .i .i64 tl, .i .i64 th, .rs 67 ms] 0), (2, .i .i64 t2), (46, .rs 67 t46), (47, .i .i64 t47), (48, .i .i64 t48)], m := [], nx := 0, nt := 106 }
structure S15a where
  t48 : Int
inductive T15a where
  | x0 (t2' : Int) (t48 : Int)
  | x1 (t48 : Int)
noncomputable def stp15a (os hs : List (List AV)) (st tl th : Int) (ms : List (List AV)) (t2 : Int) (t46 : List (List AV)) (t47 t48 : Int) : Lp S15a T15a :=
  cond (decide (t48 < t47)) (cond (inb t48 t46.length) (cond (g21 os hs (fI (t46.getD t48.toNat []) 0) (fI (t46.getD t48.toNat []) 1)) (cond (!w21_0 os hs (fI (t46.getD t48.toNat []) 0) (fI (t46.getD t48.toNat []) 1)) (.out (.x0 7 t48)) (cond (g37 (fI (t46.getD t48.toNat []) 2) (fI (t46.getD t48.toNat []) 3) 2000) (cond (!w37_0 (fI (t46.getD t48.toNat []) 2) (fI (t46.getD t48.toNat []) 3) 2000) (.out (.x0 1 t48)) (.go ⟨IntKind.i64.wrap (t48 + 1)⟩)) (.bad))) (.bad)) (.bad)) (.out (.x1 t48))
noncomputable def o15a_0 (os hs : List (List AV)) (st tl th : Int) (ms : List (List AV)) (t2 : Int) (t46 : List (List AV)) (t47 t2' t48 : Int) : St :=
  { t := [(1, .rp [.sl 32, .sl 55, .int .i64, .int .i64, .int .i64, .sl 67] [.rs 32 os, .rs 55 hs, .i .i64 st, .i .i64 tl, .i .i64 th, .rs 67 ms] 0), (2, .i .i64 t2'), (46, .rs 67 t46), (47, .i .i64 t47), (48, .i .i64 t48)], m := [], nx := 0, nt := 106 }
noncomputable def o15a_1 (os hs : List (List AV)) (st tl th : Int) (ms : List (List AV)) (t2 : Int) (t46 : List (List AV)) (t47 t48 : Int) : St :=
  { t := [(1, .rp [.sl 32, .sl 55, .int .i64, .int .i64, .int .i64, .sl 67] [.rs 32 os, .rs 55 hs, .i .i64 st, .i .i64 tl, .i .i64 th, .rs 67 ms] 0), (2, .i .i64 t2), (46, .rs 67 t46), (47, .i .i64 t47), (48, .i .i64 t48)], m := [], nx := 0, nt := 106 }
noncomputable def ou15a (os hs : List (List AV)) (st tl th : Int) (ms : List (List AV)) (t2 : Int) (t46 : List (List AV)) (t47 : Int) : T15a → Ex × St
  | .x0 t2' t48 => (.ret, o15a_0 os hs st tl th ms t2 t46 t47 t2' t48)
  | .x1 t48 => (.ext 1, o15a_1 os hs st tl th ms t2 t46 t47 t48)
noncomputable def r15a (os hs : List (List AV)) (st tl th : Int) (ms : List (List AV)) (t2 : Int) (t46 : List (List AV)) (t47 t48 : Int) : Option T15a := run (fun x => stp15a os hs st tl th ms t2 t46 t47 x.t48) (⟨t48⟩ : S15a)
noncomputable def i15a_0 (os hs : List (List AV)) (st tl th : Int) (ms : List (List AV)) (t2 : Int) (t46 : List (List AV)) (t47 t48 : Int) : Bool := match r15a os hs st tl th ms t2 t46 t47 t48 with
  | some (.x0 _ _) => true
  | _ => false
noncomputable def v15a_0_t2' (os hs : List (List AV)) (st tl th : Int) (ms : List (List AV)) (t2 : Int) (t46 : List (List AV)) (t47 t48 : Int) : Int := match r15a os hs st tl th ms t2 t46 t47 t48 with
  | some (.x0 t2' _) => t2'
  | _ => default
noncomputable def v15a_0_t48 (os hs : List (List AV)) (st tl th : Int) (ms : List (List AV)) (t2 : Int) (t46 : List (List AV)) (t47 t48 : Int) : Int := match r15a os hs st tl th ms t2 t46 t47 t48 with
  | some (.x0 _ t48) => t48
  | _ => default
noncomputable def i15a_1 (os hs : List (List AV)) (st tl th : Int) (ms : List (List AV)) (t2 : Int) (t46 : List (List AV)) (t47 t48 : Int) : Bool := match r15a os hs st tl th ms t2 t46 t47 t48 with
  | some (.x1 _) => true
  | _ => false
noncomputable def v15a_1_t48 (os hs : List (List AV)) (st tl th : Int) (ms : List (List AV)) (t2 : Int) (t46 : List (List AV)) (t47 t48 : Int) : Int := match r15a os hs st tl th ms t2 t46 t47 t48 with
  | some (.x1 t48) => t48
  | _ => default
noncomputable def q15a (os hs : List (List AV)) (st tl th : Int) (ms : List (List AV)) (t2 : Int) (t46 : List (List AV)) (t47 t48 : Int) : List (Bool × Ex × St) := [(i15a_0 os hs st tl th ms t2 t46 t47 t48, .ret, o15a_0 os hs st tl th ms t2 t46 t47 (v15a_0_t2' os hs st tl th ms t2 t46 t47 t48) (v15a_0_t48 os hs st tl th ms t2 t46 t47 t48)), (i15a_1 os hs st tl th ms t2 t46 t47 t48, .ext 1, o15a_1 os hs st tl th ms t2 t46 t47 (v15a_1_t48 os hs st tl th ms t2 t46 t47 t48))]
noncomputable def l15a (st : St) : Option (List (Bool × Ex × St)) := qget [.rp [.sl 32, .sl 55, .int .i64, .int .i64, .int .i64, .sl 67] [.rs 32, .rs 55, .i .i64, .i .i64, .i .i64, .rs 67] 0, .i .i64, .rs 67, .i .i64, .i .i64] [] 0 106 (normW Try.prog [(1, none), (2, none), (46, none), (47, none), (48, none)] 0 st) fun ls => q15a (lLL ls 0) (lLL ls 1) (lI ls 2) (lI ls 3) (lI ls 4) (lLL ls 5) (lI ls 6) (lLL ls 7) (lI ls 8) (lI ls 9)
noncomputable def lp15b : Code := loopAt c15 [true, true, true, true, false, true, false]
noncomputable def s15b (os hs : List (List AV)) (st tl th : Int) (ms : List (List AV)) (t2 : Int) (t66 : List (List AV)) (t67 t68 : Int) : St :=
  { t := [(1, .rp [.sl 32, .sl 55, .int .i64, .int .i64, .int .i64, .sl 67] [.rs 32 os, .rs 55 hs, .i .i64 st, .i .i64 tl, .i .i64 th, .rs 67 ms] 0), (2, .i .i64 t2), (66, .rs 67 t66), (67, .i .i64 t67), (68, .i .i64 t68)], m := [], nx := 0, nt := 106 }
structure S15b where
  t68 : Int
inductive T15b where
  | x0 (t2' : Int) (t68 : Int)
  | x1 (t68 : Int)
noncomputable def stp15b (os hs : List (List AV)) (st tl th : Int) (ms : List (List AV)) (t2 : Int) (t66 : List (List AV)) (t67 t68 : Int) : Lp S15b T15b :=
  cond (decide (t68 < t67)) (cond (inb t68 t66.length) (cond (decide (t68 > 0)) (cond (inb (IntKind.i64.wrap (t68 - 1)) ms.length) (cond (g26 (fI (ms.getD (IntKind.i64.wrap (t68 - 1)).toNat []) 0) (fI (ms.getD (IntKind.i64.wrap (t68 - 1)).toNat []) 1) (fI (t66.getD t68.toNat []) 0) (fI (t66.getD t68.toNat []) 1)) (cond (decide (w26_0 (fI (ms.getD (IntKind.i64.wrap (t68 - 1)).toNat []) 0) (fI (ms.getD (IntKind.i64.wrap (t68 - 1)).toNat []) 1) (fI (t66.getD t68.toNat []) 0) (fI (t66.getD t68.toNat []) 1) ≥ 0)) (.out (.x0 8 t68)) (.go ⟨IntKind.i64.wrap (t68 + 1)⟩)) (.bad)) (.bad)) (.go ⟨IntKind.i64.wrap (t68 + 1)⟩)) (.bad)) (.out (.x1 t68))
noncomputable def o15b_0 (os hs : List (List AV)) (st tl th : Int) (ms : List (List AV)) (t2 : Int) (t66 : List (List AV)) (t67 t2' t68 : Int) : St :=
  { t := [(1, .rp [.sl 32, .sl 55, .int .i64, .int .i64, .int .i64, .sl 67] [.rs 32 os, .rs 55 hs, .i .i64 st, .i .i64 tl, .i .i64 th, .rs 67 ms] 0), (2, .i .i64 t2'), (66, .rs 67 t66), (67, .i .i64 t67), (68, .i .i64 t68)], m := [], nx := 0, nt := 106 }
noncomputable def o15b_1 (os hs : List (List AV)) (st tl th : Int) (ms : List (List AV)) (t2 : Int) (t66 : List (List AV)) (t67 t68 : Int) : St :=
  { t := [(1, .rp [.sl 32, .sl 55, .int .i64, .int .i64, .int .i64, .sl 67] [.rs 32 os, .rs 55 hs, .i .i64 st, .i .i64 tl, .i .i64 th, .rs 67 ms] 0), (2, .i .i64 t2), (66, .rs 67 t66), (67, .i .i64 t67), (68, .i .i64 t68)], m := [], nx := 0, nt := 106 }
noncomputable def ou15b (os hs : List (List AV)) (st tl th : Int) (ms : List (List AV)) (t2 : Int) (t66 : List (List AV)) (t67 : Int) : T15b → Ex × St
  | .x0 t2' t68 => (.ret, o15b_0 os hs st tl th ms t2 t66 t67 t2' t68)
  | .x1 t68 => (.ext 4, o15b_1 os hs st tl th ms t2 t66 t67 t68)
noncomputable def r15b (os hs : List (List AV)) (st tl th : Int) (ms : List (List AV)) (t2 : Int) (t66 : List (List AV)) (t67 t68 : Int) : Option T15b := run (fun x => stp15b os hs st tl th ms t2 t66 t67 x.t68) (⟨t68⟩ : S15b)
noncomputable def i15b_0 (os hs : List (List AV)) (st tl th : Int) (ms : List (List AV)) (t2 : Int) (t66 : List (List AV)) (t67 t68 : Int) : Bool := match r15b os hs st tl th ms t2 t66 t67 t68 with
  | some (.x0 _ _) => true
  | _ => false
noncomputable def v15b_0_t2' (os hs : List (List AV)) (st tl th : Int) (ms : List (List AV)) (t2 : Int) (t66 : List (List AV)) (t67 t68 : Int) : Int := match r15b os hs st tl th ms t2 t66 t67 t68 with
  | some (.x0 t2' _) => t2'
  | _ => default
noncomputable def v15b_0_t68 (os hs : List (List AV)) (st tl th : Int) (ms : List (List AV)) (t2 : Int) (t66 : List (List AV)) (t67 t68 : Int) : Int := match r15b os hs st tl th ms t2 t66 t67 t68 with
  | some (.x0 _ t68) => t68
  | _ => default
noncomputable def i15b_1 (os hs : List (List AV)) (st tl th : Int) (ms : List (List AV)) (t2 : Int) (t66 : List (List AV)) (t67 t68 : Int) : Bool := match r15b os hs st tl th ms t2 t66 t67 t68 with
  | some (.x1 _) => true
  | _ => false
noncomputable def v15b_1_t68 (os hs : List (List AV)) (st tl th : Int) (ms : List (List AV)) (t2 : Int) (t66 : List (List AV)) (t67 t68 : Int) : Int := match r15b os hs st tl th ms t2 t66 t67 t68 with
  | some (.x1 t68) => t68
  | _ => default
noncomputable def q15b (os hs : List (List AV)) (st tl th : Int) (ms : List (List AV)) (t2 : Int) (t66 : List (List AV)) (t67 t68 : Int) : List (Bool × Ex × St) := [(i15b_0 os hs st tl th ms t2 t66 t67 t68, .ret, o15b_0 os hs st tl th ms t2 t66 t67 (v15b_0_t2' os hs st tl th ms t2 t66 t67 t68) (v15b_0_t68 os hs st tl th ms t2 t66 t67 t68)), (i15b_1 os hs st tl th ms t2 t66 t67 t68, .ext 4, o15b_1 os hs st tl th ms t2 t66 t67 (v15b_1_t68 os hs st tl th ms t2 t66 t67 t68))]
noncomputable def l15b (st : St) : Option (List (Bool × Ex × St)) := qget [.rp [.sl 32, .sl 55, .int .i64, .int .i64, .int .i64, .sl 67] [.rs 32, .rs 55, .i .i64, .i .i64, .i .i64, .rs 67] 0, .i .i64, .rs 67, .i .i64, .i .i64] [] 0 106 (normW Try.prog [(1, none), (2, none), (66, none), (67, none), (68, none)] 0 st) fun ls => q15b (lLL ls 0) (lLL ls 1) (lI ls 2) (lI ls 3) (lI ls 4) (lLL ls 5) (lI ls 6) (lLL ls 7) (lI ls 8) (lI ls 9)
noncomputable def lp15c : Code := loopAt c15 [true, true, true, true, true, false, true, false]
noncomputable def s15c (os hs : List (List AV)) (st tl th : Int) (ms : List (List AV)) (t2 : Int) (t90 : List (List AV)) (t91 t92 : Int) : St :=
  { t := [(1, .rp [.sl 32, .sl 55, .int .i64, .int .i64, .int .i64, .sl 67] [.rs 32 os, .rs 55 hs, .i .i64 st, .i .i64 tl, .i .i64 th, .rs 67 ms] 0), (2, .i .i64 t2), (90, .rs 67 t90), (91, .i .i64 t91), (92, .i .i64 t92)], m := [], nx := 0, nt := 106 }
structure S15c where
  t92 : Int
inductive T15c where
  | x0 (t2' : Int) (t92 : Int)
  | x1 (t92 : Int)
noncomputable def stp15c (os hs : List (List AV)) (st tl th : Int) (ms : List (List AV)) (t2 : Int) (t90 : List (List AV)) (t91 t92 : Int) : Lp S15c T15c :=
  cond (decide (t92 < t91)) (cond (inb t92 t90.length) (cond (g33 os hs st tl th ms (fI (t90.getD t92.toNat []) 0) (fI (t90.getD t92.toNat []) 1)) (cond (decide (w33_0 os hs st tl th ms (fI (t90.getD t92.toNat []) 0) (fI (t90.getD t92.toNat []) 1) > w33_1 os hs st tl th ms (fI (t90.getD t92.toNat []) 0) (fI (t90.getD t92.toNat []) 1))) (.out (.x0 10 t92)) (.go ⟨IntKind.i64.wrap (t92 + 1)⟩)) (.bad)) (.bad)) (.out (.x1 t92))
noncomputable def o15c_0 (os hs : List (List AV)) (st tl th : Int) (ms : List (List AV)) (t2 : Int) (t90 : List (List AV)) (t91 t2' t92 : Int) : St :=
  { t := [(1, .rp [.sl 32, .sl 55, .int .i64, .int .i64, .int .i64, .sl 67] [.rs 32 os, .rs 55 hs, .i .i64 st, .i .i64 tl, .i .i64 th, .rs 67 ms] 0), (2, .i .i64 t2'), (90, .rs 67 t90), (91, .i .i64 t91), (92, .i .i64 t92)], m := [], nx := 0, nt := 106 }
noncomputable def o15c_1 (os hs : List (List AV)) (st tl th : Int) (ms : List (List AV)) (t2 : Int) (t90 : List (List AV)) (t91 t92 : Int) : St :=
  { t := [(1, .rp [.sl 32, .sl 55, .int .i64, .int .i64, .int .i64, .sl 67] [.rs 32 os, .rs 55 hs, .i .i64 st, .i .i64 tl, .i .i64 th, .rs 67 ms] 0), (2, .i .i64 t2), (90, .rs 67 t90), (91, .i .i64 t91), (92, .i .i64 t92)], m := [], nx := 0, nt := 106 }
noncomputable def ou15c (os hs : List (List AV)) (st tl th : Int) (ms : List (List AV)) (t2 : Int) (t90 : List (List AV)) (t91 : Int) : T15c → Ex × St
  | .x0 t2' t92 => (.ret, o15c_0 os hs st tl th ms t2 t90 t91 t2' t92)
  | .x1 t92 => (.ext 6, o15c_1 os hs st tl th ms t2 t90 t91 t92)
noncomputable def r15c (os hs : List (List AV)) (st tl th : Int) (ms : List (List AV)) (t2 : Int) (t90 : List (List AV)) (t91 t92 : Int) : Option T15c := run (fun x => stp15c os hs st tl th ms t2 t90 t91 x.t92) (⟨t92⟩ : S15c)
noncomputable def i15c_0 (os hs : List (List AV)) (st tl th : Int) (ms : List (List AV)) (t2 : Int) (t90 : List (List AV)) (t91 t92 : Int) : Bool := match r15c os hs st tl th ms t2 t90 t91 t92 with
  | some (.x0 _ _) => true
  | _ => false
noncomputable def v15c_0_t2' (os hs : List (List AV)) (st tl th : Int) (ms : List (List AV)) (t2 : Int) (t90 : List (List AV)) (t91 t92 : Int) : Int := match r15c os hs st tl th ms t2 t90 t91 t92 with
  | some (.x0 t2' _) => t2'
  | _ => default
noncomputable def v15c_0_t92 (os hs : List (List AV)) (st tl th : Int) (ms : List (List AV)) (t2 : Int) (t90 : List (List AV)) (t91 t92 : Int) : Int := match r15c os hs st tl th ms t2 t90 t91 t92 with
  | some (.x0 _ t92) => t92
  | _ => default
noncomputable def i15c_1 (os hs : List (List AV)) (st tl th : Int) (ms : List (List AV)) (t2 : Int) (t90 : List (List AV)) (t91 t92 : Int) : Bool := match r15c os hs st tl th ms t2 t90 t91 t92 with
  | some (.x1 _) => true
  | _ => false
noncomputable def v15c_1_t92 (os hs : List (List AV)) (st tl th : Int) (ms : List (List AV)) (t2 : Int) (t90 : List (List AV)) (t91 t92 : Int) : Int := match r15c os hs st tl th ms t2 t90 t91 t92 with
  | some (.x1 t92) => t92
  | _ => default
noncomputable def q15c (os hs : List (List AV)) (st tl th : Int) (ms : List (List AV)) (t2 : Int) (t90 : List (List AV)) (t91 t92 : Int) : List (Bool × Ex × St) := [(i15c_0 os hs st tl th ms t2 t90 t91 t92, .ret, o15c_0 os hs st tl th ms t2 t90 t91 (v15c_0_t2' os hs st tl th ms t2 t90 t91 t92) (v15c_0_t92 os hs st tl th ms t2 t90 t91 t92)), (i15c_1 os hs st tl th ms t2 t90 t91 t92, .ext 6, o15c_1 os hs st tl th ms t2 t90 t91 (v15c_1_t92 os hs st tl th ms t2 t90 t91 t92))]
noncomputable def l15c (st : St) : Option (List (Bool × Ex × St)) := qget [.rp [.sl 32, .sl 55, .int .i64, .int .i64, .int .i64, .sl 67] [.rs 32, .rs 55, .i .i64, .i .i64, .i .i64, .rs 67] 0, .i .i64, .rs 67, .i .i64, .i .i64] [] 0 106 (normW Try.prog [(1, none), (2, none), (90, none), (91, none), (92, none)] 0 st) fun ls => q15c (lLL ls 0) (lLL ls 1) (lI ls 2) (lI ls 3) (lI ls 4) (lLL ls 5) (lI ls 6) (lLL ls 7) (lI ls 8) (lI ls 9)
noncomputable def L15 : LSpec := fun p st => match p with
  | [false, true, false, true, true, true] => l15a st
  | [false, true, false, true, true, true, true] => l15b st
  | [false, true, false, true, true, true, true, true] => l15c st
  | _ => none
theorem is15a_0 (os hs : List (List AV)) (st tl th : Int) (ms : List (List AV)) (t2 : Int) (t46 : List (List AV)) (t47 t48 : Int) (h : i15a_0 os hs st tl th ms t2 t46 t47 t48 = true) : r15a os hs st tl th ms t2 t46 t47 t48 = some (.x0 (v15a_0_t2' os hs st tl th ms t2 t46 t47 t48) (v15a_0_t48 os hs st tl th ms t2 t46 t47 t48)) := by
  unfold i15a_0 at h
  unfold v15a_0_t2' v15a_0_t48
  generalize r15a os hs st tl th ms t2 t46 t47 t48 = r at h ⊢
  rcases r with _ | y
  · cases h
  · cases y <;> first | rfl | cases h
theorem is15a_1 (os hs : List (List AV)) (st tl th : Int) (ms : List (List AV)) (t2 : Int) (t46 : List (List AV)) (t47 t48 : Int) (h : i15a_1 os hs st tl th ms t2 t46 t47 t48 = true) : r15a os hs st tl th ms t2 t46 t47 t48 = some (.x1 (v15a_1_t48 os hs st tl th ms t2 t46 t47 t48)) := by
  unfold i15a_1 at h
  unfold v15a_1_t48
  generalize r15a os hs st tl th ms t2 t46 t47 t48 = r at h ⊢
  rcases r with _ | y
  · cases h
  · cases y <;> first | rfl | cases h
theorem round15a (os hs : List (List AV)) (st tl th : Int) (ms : List (List AV)) (t2 : Int) (t46 : List (List AV)) (t47 t48 : Int) : round Try.prog SW6 (ro 15) L15 lp15a [false, true, false, true, true, true] [(1, none), (2, none), (46, none), (47, none), (48, none)] 0 (s15a os hs st tl th ms t2 t46 t47 t48) =
    cond (decide (t48 < t47)) (cond (inb t48 t46.length) (cond (g21 os hs (fI (t46.getD t48.toNat []) 0) (fI (t46.getD t48.toNat []) 1)) (cond (!w21_0 os hs (fI (t46.getD t48.toNat []) 0) (fI (t46.getD t48.toNat []) 1)) (some (.ret, o15a_0 os hs st tl th ms t2 t46 t47 7 t48)) (cond (g37 (fI (t46.getD t48.toNat []) 2) (fI (t46.getD t48.toNat []) 3) 2000) (cond (!w37_0 (fI (t46.getD t48.toNat []) 2) (fI (t46.getD t48.toNat []) 3) 2000) (some (.ret, o15a_0 os hs st tl th ms t2 t46 t47 1 t48)) (some (.nrm, s15a os hs st tl th ms t2 t46 t47 (IntKind.i64.wrap (t48 + 1))))) (none))) (none)) (none)) (some (.ext 1, o15a_1 os hs st tl th ms t2 t46 t47 t48)) := by kernel_rfl
theorem rnd15a (os hs : List (List AV)) (st tl th : Int) (ms : List (List AV)) (t2 : Int) (t46 : List (List AV)) (t47 : Int) (x : S15a) : round Try.prog SW6 (ro 15) L15 lp15a [false, true, false, true, true, true] [(1, none), (2, none), (46, none), (47, none), (48, none)] 0 ((fun x => s15a os hs st tl th ms t2 t46 t47 x.t48) x) = toR (fun x => s15a os hs st tl th ms t2 t46 t47 x.t48) (ou15a os hs st tl th ms t2 t46 t47) (stp15a os hs st tl th ms t2 t46 t47 x.t48) := by
  refine (round15a _ _ _ _ _ _ _ _ _ _ ).trans ?_
  unfold stp15a
  simp only [toR_cond]
  rfl
theorem lokb15a (os hs : List (List AV)) (st tl th : Int) (ms : List (List AV)) (t2 : Int) (t46 : List (List AV)) (t47 t48 : Int) {e : Ex} {s : St} (hch : Chosen (q15a os hs st tl th ms t2 t46 t47 t48) e s) : LB Try.prog SW6 (ro 15) L15 lp15a [false, true, false, true, true, true] [(1, none), (2, none), (46, none), (47, none), (48, none)] 0 (s15a os hs st tl th ms t2 t46 t47 t48) e s := by
  unfold q15a at hch
  have main := fun y h => LB_run (x := (⟨t48⟩ : S15a)) (y := y) (nb := 0) (fun y => by cases y <;> simp [ou15a]) (rnd15a os hs st tl th ms t2 t46 t47) h
  obtain ⟨x, hx, hg, rfl, rfl⟩ := chosen_any hch
  simp only [List.mem_cons, List.not_mem_nil, or_false] at hx
  rcases hx with rfl | rfl
  · exact main _ (is15a_0 os hs st tl th ms t2 t46 t47 t48 hg)
  · exact main _ (is15a_1 os hs st tl th ms t2 t46 t47 t48 hg)
theorem lok15a {st : St} {outs : List (Bool × Ex × St)} {e : Ex} {s : St} (hl : l15a st = some outs) (hch : Chosen outs e s) :
    ∃ keep nb, 0 ≤ nb ∧ LB Try.prog SW6 (ro 15) L15 lp15a [false, true, false, true, true, true] keep nb st e s := by
  unfold l15a at hl
  obtain ⟨ls, hno, rfl⟩ := qget_some hl
  have hno := normW_norm hno
  refine ⟨_, _, ?_, .enterQ hno (s2 := s15a (lLL ls 0) (lLL ls 1) (lI ls 2) (lI ls 3) (lI ls 4) (lLL ls 5) (lI ls 6) (lLL ls 7) (lI ls 8) (lI ls 9)) (by kernel_rfl) (lokb15a _ _ _ _ _ _ _ _ _ _ hch)⟩
  decide
theorem is15b_0 (os hs : List (List AV)) (st tl th : Int) (ms : List (List AV)) (t2 : Int) (t66 : List (List AV)) (t67 t68 : Int) (h : i15b_0 os hs st tl th ms t2 t66 t67 t68 = true) : r15b os hs st tl th ms t2 t66 t67 t68 = some (.x0 (v15b_0_t2' os hs st tl th ms t2 t66 t67 t68) (v15b_0_t68 os hs st tl th ms t2 t66 t67 t68)) := by
  unfold i15b_0 at h
  unfold v15b_0_t2' v15b_0_t68
  generalize r15b os hs st tl th ms t2 t66 t67 t68 = r at h ⊢
  rcases r with _ | y
  · cases h
  · cases y <;> first | rfl | cases h
theorem is15b_1 (os hs : List (List AV)) (st tl th : Int) (ms : List (List AV)) (t2 : Int) (t66 : List (List AV)) (t67 t68 : Int) (h : i15b_1 os hs st tl th ms t2 t66 t67 t68 = true) : r15b os hs st tl th ms t2 t66 t67 t68 = some (.x1 (v15b_1_t68 os hs st tl th ms t2 t66 t67 t68)) := by
  unfold i15b_1 at h
  unfold v15b_1_t68
  generalize r15b os hs st tl th ms t2 t66 t67 t68 = r at h ⊢
  rcases r with _ | y
  · cases h
  · cases y <;> first | rfl | cases h
theorem round15b (os hs : List (List AV)) (st tl th : Int) (ms : List (List AV)) (t2 : Int) (t66 : List (List AV)) (t67 t68 : Int) : round Try.prog SW6 (ro 15) L15 lp15b [false, true, false, true, true, true, true] [(1, none), (2, none), (66, none), (67, none), (68, none)] 0 (s15b os hs st tl th ms t2 t66 t67 t68) =
    cond (decide (t68 < t67)) (cond (inb t68 t66.length) (cond (decide (t68 > 0)) (cond (inb (IntKind.i64.wrap (t68 - 1)) ms.length) (cond (g26 (fI (ms.getD (IntKind.i64.wrap (t68 - 1)).toNat []) 0) (fI (ms.getD (IntKind.i64.wrap (t68 - 1)).toNat []) 1) (fI (t66.getD t68.toNat []) 0) (fI (t66.getD t68.toNat []) 1)) (cond (decide (w26_0 (fI (ms.getD (IntKind.i64.wrap (t68 - 1)).toNat []) 0) (fI (ms.getD (IntKind.i64.wrap (t68 - 1)).toNat []) 1) (fI (t66.getD t68.toNat []) 0) (fI (t66.getD t68.toNat []) 1) ≥ 0)) (some (.ret, o15b_0 os hs st tl th ms t2 t66 t67 8 t68)) (some (.nrm, s15b os hs st tl th ms t2 t66 t67 (IntKind.i64.wrap (t68 + 1))))) (none)) (none)) (some (.nrm, s15b os hs st tl th ms t2 t66 t67 (IntKind.i64.wrap (t68 + 1))))) (none)) (some (.ext 4, o15b_1 os hs st tl th ms t2 t66 t67 t68)) := by kernel_rfl
theorem rnd15b (os hs : List (List AV)) (st tl th : Int) (ms : List (List AV)) (t2 : Int) (t66 : List (List AV)) (t67 : Int) (x : S15b) : round Try.prog SW6 (ro 15) L15 lp15b [false, true, false, true, true, true, true] [(1, none), (2, none), (66, none), (67, none), (68, none)] 0 ((fun x => s15b os hs st tl th ms t2 t66 t67 x.t68) x) = toR (fun x => s15b os hs st tl th ms t2 t66 t67 x.t68) (ou15b os hs st tl th ms t2 t66 t67) (stp15b os hs st tl th ms t2 t66 t67 x.t68) := by
  refine (round15b _ _ _ _ _ _ _ _ _ _ ).trans ?_
  unfold stp15b
  simp only [toR_cond]
  rfl
theorem lokb15b (os hs : List (List AV)) (st tl th : Int) (ms : List (List AV)) (t2 : Int) (t66 : List (List AV)) (t67 t68 : Int) {e : Ex} {s : St} (hch : Chosen (q15b os hs st tl th ms t2 t66 t67 t68) e s) : LB Try.prog SW6 (ro 15) L15 lp15b [false, true, false, true, true, true, true] [(1, none), (2, none), (66, none), (67, none), (68, none)] 0 (s15b os hs st tl th ms t2 t66 t67 t68) e s := by
  unfold q15b at hch
  have main := fun y h => LB_run (x := (⟨t68⟩ : S15b)) (y := y) (nb := 0) (fun y => by cases y <;> simp [ou15b]) (rnd15b os hs st tl th ms t2 t66 t67) h
  obtain ⟨x, hx, hg, rfl, rfl⟩ := chosen_any hch
  simp only [List.mem_cons, List.not_mem_nil, or_false] at hx
  rcases hx with rfl | rfl
  · exact main _ (is15b_0 os hs st tl th ms t2 t66 t67 t68 hg)
  · exact main _ (is15b_1 os hs st tl th ms t2 t66 t67 t68 hg)
theorem lok15b {st : St} {outs : List (Bool × Ex × St)} {e : Ex} {s : St} (hl : l15b st = some outs) (hch : Chosen outs e s) :
    ∃ keep nb, 0 ≤ nb ∧ LB Try.prog SW6 (ro 15) L15 lp15b [false, true, false, true, true, true, true] keep nb st e s := by
  unfold l15b at hl
  obtain ⟨ls, hno, rfl⟩ := qget_some hl
  have hno := normW_norm hno
  refine ⟨_, _, ?_, .enterQ hno (s2 := s15b (lLL ls 0) (lLL ls 1) (lI ls 2) (lI ls 3) (lI ls 4) (lLL ls 5) (lI ls 6) (lLL ls 7) (lI ls 8) (lI ls 9)) (by kernel_rfl) (lokb15b _ _ _ _ _ _ _ _ _ _ hch)⟩
  decide
theorem is15c_0 (os hs : List (List AV)) (st tl th : Int) (ms : List (List AV)) (t2 : Int) (t90 : List (List AV)) (t91 t92 : Int) (h : i15c_0 os hs st tl th ms t2 t90 t91 t92 = true) : r15c os hs st tl th ms t2 t90 t91 t92 = some (.x0 (v15c_0_t2' os hs st tl th ms t2 t90 t91 t92) (v15c_0_t92 os hs st tl th ms t2 t90 t91 t92)) := by
  unfold i15c_0 at h
  unfold v15c_0_t2' v15c_0_t92
  generalize r15c os hs st tl th ms t2 t90 t91 t92 = r at h ⊢
  rcases r with _ | y
  · cases h
  · cases y <;> first | rfl | cases h
theorem is15c_1 (os hs : List (List AV)) (st tl th : Int) (ms : List (List AV)) (t2 : Int) (t90 : List (List AV)) (t91 t92 : Int) (h : i15c_1 os hs st tl th ms t2 t90 t91 t92 = true) : r15c os hs st tl th ms t2 t90 t91 t92 = some (.x1 (v15c_1_t92 os hs st tl th ms t2 t90 t91 t92)) := by
  unfold i15c_1 at h
  unfold v15c_1_t92
  generalize r15c os hs st tl th ms t2 t90 t91 t92 = r at h ⊢
  rcases r with _ | y
  · cases h
  · cases y <;> first | rfl | cases h
theorem round15c (os hs : List (List AV)) (st tl th : Int) (ms : List (List AV)) (t2 : Int) (t90 : List (List AV)) (t91 t92 : Int) : round Try.prog SW6 (ro 15) L15 lp15c [false, true, false, true, true, true, true, true] [(1, none), (2, none), (90, none), (91, none), (92, none)] 0 (s15c os hs st tl th ms t2 t90 t91 t92) =
    cond (decide (t92 < t91)) (cond (inb t92 t90.length) (cond (g33 os hs st tl th ms (fI (t90.getD t92.toNat []) 0) (fI (t90.getD t92.toNat []) 1)) (cond (decide (w33_0 os hs st tl th ms (fI (t90.getD t92.toNat []) 0) (fI (t90.getD t92.toNat []) 1) > w33_1 os hs st tl th ms (fI (t90.getD t92.toNat []) 0) (fI (t90.getD t92.toNat []) 1))) (some (.ret, o15c_0 os hs st tl th ms t2 t90 t91 10 t92)) (some (.nrm, s15c os hs st tl th ms t2 t90 t91 (IntKind.i64.wrap (t92 + 1))))) (none)) (none)) (some (.ext 6, o15c_1 os hs st tl th ms t2 t90 t91 t92)) := by kernel_rfl
theorem rnd15c (os hs : List (List AV)) (st tl th : Int) (ms : List (List AV)) (t2 : Int) (t90 : List (List AV)) (t91 : Int) (x : S15c) : round Try.prog SW6 (ro 15) L15 lp15c [false, true, false, true, true, true, true, true] [(1, none), (2, none), (90, none), (91, none), (92, none)] 0 ((fun x => s15c os hs st tl th ms t2 t90 t91 x.t92) x) = toR (fun x => s15c os hs st tl th ms t2 t90 t91 x.t92) (ou15c os hs st tl th ms t2 t90 t91) (stp15c os hs st tl th ms t2 t90 t91 x.t92) := by
  refine (round15c _ _ _ _ _ _ _ _ _ _ ).trans ?_
  unfold stp15c
  simp only [toR_cond]
  rfl
theorem lokb15c (os hs : List (List AV)) (st tl th : Int) (ms : List (List AV)) (t2 : Int) (t90 : List (List AV)) (t91 t92 : Int) {e : Ex} {s : St} (hch : Chosen (q15c os hs st tl th ms t2 t90 t91 t92) e s) : LB Try.prog SW6 (ro 15) L15 lp15c [false, true, false, true, true, true, true, true] [(1, none), (2, none), (90, none), (91, none), (92, none)] 0 (s15c os hs st tl th ms t2 t90 t91 t92) e s := by
  unfold q15c at hch
  have main := fun y h => LB_run (x := (⟨t92⟩ : S15c)) (y := y) (nb := 0) (fun y => by cases y <;> simp [ou15c]) (rnd15c os hs st tl th ms t2 t90 t91) h
  obtain ⟨x, hx, hg, rfl, rfl⟩ := chosen_any hch
  simp only [List.mem_cons, List.not_mem_nil, or_false] at hx
  rcases hx with rfl | rfl
  · exact main _ (is15c_0 os hs st tl th ms t2 t90 t91 t92 hg)
  · exact main _ (is15c_1 os hs st tl th ms t2 t90 t91 t92 hg)
theorem lok15c {st : St} {outs : List (Bool × Ex × St)} {e : Ex} {s : St} (hl : l15c st = some outs) (hch : Chosen outs e s) :
    ∃ keep nb, 0 ≤ nb ∧ LB Try.prog SW6 (ro 15) L15 lp15c [false, true, false, true, true, true, true, true] keep nb st e s := by
  unfold l15c at hl
  obtain ⟨ls, hno, rfl⟩ := qget_some hl
  have hno := normW_norm hno
  refine ⟨_, _, ?_, .enterQ hno (s2 := s15c (lLL ls 0) (lLL ls 1) (lI ls 2) (lI ls 3) (lI ls 4) (lLL ls 5) (lI ls 6) (lLL ls 7) (lI ls 8) (lI ls 9)) (by kernel_rfl) (lokb15c _ _ _ _ _ _ _ _ _ _ hch)⟩
  decide
theorem L15_ok (q : Pl) (c : Code) (hq : locate c15 q.reverse = some (.loop c)) (st : St) (outs : List (Bool × Ex × St)) (e : Ex) (s : St) (hl : L15 q st = some outs) (hch : Chosen outs e s) :
    ∃ keep nb, 0 ≤ nb ∧ LB Try.prog SW6 (ro 15) L15 c q keep nb st e s := by
  unfold L15 at hl
  split at hl
  · have : locate c15 ([false, true, false, true, true, true] : Pl).reverse = some (.loop lp15a) := by kernel_rfl
    rw [this] at hq
    cases hq
    exact lok15a hl hch
  · have : locate c15 ([false, true, false, true, true, true, true] : Pl).reverse = some (.loop lp15b) := by kernel_rfl
    rw [this] at hq
    cases hq
    exact lok15b hl hch
  · have : locate c15 ([false, true, false, true, true, true, true, true] : Pl).reverse = some (.loop lp15c) := by kernel_rfl
    rw [this] at hq
    cases hq
    exact lok15c hl hch
  · cases hl
theorem lok15 : LOK Try.prog SW6 (ro 15) L15 0 false c15 [] :=
  lok_lo L15_ok c15 [] false (locate_nil _) (by kernel_rfl)
noncomputable def t15 (os hs : List (List AV)) (st tl th : Int) (ms : List (List AV)) : Tr ((Int)) :=
  .cn (g34 os) (.cn (w34_0 os != 0) (.lf (w34_0 os)) (.cn (decide ((↑hs.length : Int) > 6)) (.lf (3)) (.cn (g35a hs) (.cn (w35a_0 hs) (.lf (1)) (.cn (g22 st 0 1000) (.cn (!w22_0 st 0 1000) (.lf (1)) (.cn (g37 tl th 2000) (.cn (!w37_0 tl th 2000) (.lf (1)) (.cn (decide ((↑ms.length : Int) > 40)) (.lf (3)) (.cn (i15a_0 os hs st tl th ms 0 ms (↑ms.length : Int) 0) (.lf (v15a_0_t2' os hs st tl th ms 0 ms (↑ms.length : Int) 0)) (.cn (i15a_1 os hs st tl th ms 0 ms (↑ms.length : Int) 0) (.cn (i15b_0 os hs st tl th ms 0 ms (↑ms.length : Int) 0) (.lf (v15b_0_t2' os hs st tl th ms 0 ms (↑ms.length : Int) 0)) (.cn (i15b_1 os hs st tl th ms 0 ms (↑ms.length : Int) 0) (.cn (i15c_0 os hs st tl th ms 0 ms (↑ms.length : Int) 0) (.lf (v15c_0_t2' os hs st tl th ms 0 ms (↑ms.length : Int) 0)) (.cn (i15c_1 os hs st tl th ms 0 ms (↑ms.length : Int) 0) (.lf (0)) (.nn))) (.nn))) (.nn))))) (.nn))) (.nn))) (.nn)))) (.nn)
noncomputable def g15 (os hs : List (List AV)) (st tl th : Int) (ms : List (List AV)) : Bool := (t15 os hs st tl th ms).g
noncomputable def w15_0 (os hs : List (List AV)) (st tl th : Int) (ms : List (List AV)) : Int := (t15 os hs st tl th ms).val
theorem eq15 (os hs : List (List AV)) (st tl th : Int) (ms : List (List AV)) : evF Try.prog SW6 (ro 15) L15 Try.f15 [.agg [.rs 32 os, .rs 55 hs, .i .i64 st, .i .i64 tl, .i .i64 th, .rs 67 ms]] = (t15 os hs st tl th ms).opt (fun (x : (Int)) => (.i .i64 x : AV)) := by kernel_rfl
theorem con15 (os hs : List (List AV)) (st tl th : Int) (ms : List (List AV)) (h : g15 os hs st tl th ms = true) : Con Try.prog 15 [.agg [.rs 32 os, .rs 55 hs, .i .i64 st, .i .i64 tl, .i .i64 th, .rs 67 ms]] [] (.i .i64 (w15_0 os hs st tl th ms)) [] :=
  con_of SW6_ok mixed Try.func15 (c := c15) rfl (names 15 _ Try.func15) lok15 ((eq15 os hs st tl th ms).trans (Tr.sound _ _ h))
noncomputable def e15 (args : List AV) (rows : List Blk) : Option (Bool × AV × List Blk) := match args, rows with
  | [.agg [.rs 32 os, .rs 55 hs, .i .i64 st, .i .i64 tl, .i .i64 th, .rs 67 ms]], [] => some (g15 os hs st tl th ms, .i .i64 (w15_0 os hs st tl th ms), [])
  | _, _ => none
theorem e15_ok (args : List AV) (rows : List Blk) (pre : Bool) (v : AV) (rows' : List Blk) (h : e15 args rows = some (pre, v, rows')) (hp : pre = true) : Con Try.prog 15 args rows v rows' := by
  unfold e15 at h
  split at h
  · cases h; exact con15 _ _ _ _ _ _ hp
  · cases h
-- SPEC 15
end Go.Proofs.Ytoglnllbopcejaa

set_option maxRecDepth 100000
set_option linter.unusedVariables false
namespace Go.Proofs.Ytoglnllbopcejaa
open Go Go.Ev

theorem k15 (os hs : List (List AV)) (st tl th : Int) (ms : List (List AV)) (ho : okS os = true) : g15 os hs st tl th ms = true ∧ w15_0 os hs st tl th ms = checkW os hs ms st tl th := by
  refine TrP.ok (t := t15 os hs st tl th ms) (p := fun x => x = checkW os hs ms st tl th) ?_
  unfold t15 checkW
  refine .t (k34 os ho).1 ?_
  rw [(k34 os ho).2]
  cases outW os != 0
  · refine .f rfl ?_
    cases h1 : decide (((hs.length : Nat) : Int) > 6)
    · have h1 := of_decide_eq_false h1
      have hh : hs.length < 9223372036854775807 := by omega
      refine .f rfl ?_
      rw [(k35a hs hh).1, (k35a hs hh).2]
      refine .t rfl ?_
      cases anyN (ex64a hs) hs.length
      · refine .f rfl (.t (k22 _ _ _).1 ?_)
        rw [(k22 _ _ _).2]
        cases !inB st 0 1000
        · refine .f rfl (.t (k37 _ _ _).1 ?_)
          rw [(k37 _ _ _).2]
          cases !spB tl th 2000
          · refine .f rfl ?_
            cases h2 : decide (((ms.length : Nat) : Int) > 40)
            · have h2 := of_decide_eq_false h2
              have hm : ms.length < 9223372036854775807 := by omega
              have ra : r15a os hs st tl th ms 0 ms (ms.length : Int) 0 = some (cond (anyN (mkW os hs ms) ms.length) (.x0 (cond (!hasB os hs (cU (ms.getD (firstN (mkW os hs ms) ms.length) [])) (cV (ms.getD (firstN (mkW os hs ms) ms.length) []))) 7 1) ((firstN (mkW os hs ms) ms.length : Nat) : Int)) (.x1 (ms.length : Int))) := by
                refine run_find (n := ms.length) (fun k => (⟨(k : Int)⟩ : S15a)) (mkW os hs ms) (fun k => T15a.x0 (cond (!hasB os hs (cU (ms.getD k [])) (cV (ms.getD k []))) 7 1) (k : Int)) _ (fun k hk => ?_) ?_
                · unfold stp15a mkW cU cV cL cH
                  simp only [lt_true hk, inb_true hk, wrap_succ (show k < 9223372036854775807 by omega), Int.toNat_natCast, cond_true, (k21 os hs _ _ ho hh).1, (k21 os hs _ _ ho hh).2, (k37 _ _ _).1, (k37 _ _ _).2]
                  cases hasB os hs (fI (ms.getD k []) 0) (fI (ms.getD k []) 1) <;> cases spB (fI (ms.getD k []) 2) (fI (ms.getD k []) 3) 2000 <;> rfl
                · unfold stp15a
                  rw [lt_false]; rfl
              have rb : r15b os hs st tl th ms 0 ms (ms.length : Int) 0 = some (cond (anyN (ordW ms) ms.length) (.x0 8 ((firstN (ordW ms) ms.length : Nat) : Int)) (.x1 (ms.length : Int))) := by
                refine run_find (n := ms.length) (fun k => (⟨(k : Int)⟩ : S15b)) (ordW ms) (fun k => T15b.x0 8 (k : Int)) _ (fun k hk => ?_) ?_
                · unfold stp15b ordW cU cV
                  simp only [lt_true hk, inb_true hk, wrap_succ (show k < 9223372036854775807 by omega), Int.toNat_natCast, cond_true, (k26 _ _ _ _).1, (k26 _ _ _ _).2]
                  cases k with
                  | zero => rfl
                  | succ j =>
                    rw [wrap_pred (by omega), inb_true (show j < ms.length by omega), Int.toNat_natCast, Nat.add_sub_cancel, show decide (((j + 1 : Nat) : Int) > 0) = true from decide_eq_true (by omega), show decide (j + 1 > 0) = true from decide_eq_true (by omega)]
                    rfl
                · unfold stp15b
                  rw [lt_false]; rfl
              have rc : r15c os hs st tl th ms 0 ms (ms.length : Int) 0 = some (cond (anyN (bndW st tl th ms) ms.length) (.x0 10 ((firstN (bndW st tl th ms) ms.length : Nat) : Int)) (.x1 (ms.length : Int))) := by
                refine run_find (n := ms.length) (fun k => (⟨(k : Int)⟩ : S15c)) (bndW st tl th ms) (fun k => T15c.x0 10 (k : Int)) _ (fun k hk => ?_) ?_
                · unfold stp15c bndW cU cV
                  simp only [lt_true hk, inb_true hk, wrap_succ (show k < 9223372036854775807 by omega), Int.toNat_natCast, cond_true, (k33 os hs st tl th ms _ _ hm).1, (k33 os hs st tl th ms _ _ hm).2.1, (k33 os hs st tl th ms _ _ hm).2.2]
                · unfold stp15c
                  rw [lt_false]; rfl
              refine .f rfl ?_
              unfold i15a_0 i15a_1 v15a_0_t2' i15b_0 i15b_1 v15b_0_t2' i15c_0 i15c_1 v15c_0_t2'
              rw [ra, rb, rc]
              cases anyN (mkW os hs ms) ms.length
              · refine .f rfl (.t rfl ?_)
                cases anyN (ordW ms) ms.length
                · refine .f rfl (.t rfl ?_)
                  cases anyN (bndW st tl th ms) ms.length
                  · exact .f rfl (.t rfl rfl)
                  · exact .t rfl rfl
                · exact .t rfl rfl
              · exact .t rfl rfl
            · exact .t rfl rfl
          · exact .t rfl rfl
        · exact .t rfl rfl
      · exact .t rfl rfl
    · exact .t rfl rfl
  · exact .t rfl rfl

theorem k7 (os hs : List (List AV)) (st tl th : Int) (ms : List (List AV)) : g7 os hs st tl th ms = true ∧ w7_0 os hs st tl th ms = greatB os hs ms := by
  refine TrP.ok (t := t7 os hs st tl th ms) (p := fun x => x = greatB os hs ms) ?_
  unfold t7 greatB
  cases decide (((os.length : Nat) : Int) > 30)
  · cases h1 : decide (((hs.length : Nat) : Int) > 30)
    · have h1 := of_decide_eq_false h1
      have r : r7a os hs st tl th ms false 0 = some (cond (anyN (lgB hs) hs.length) (.x0 true ((firstN (lgB hs) hs.length : Nat) : Int)) (.x1 (hs.length : Int))) := by
        refine run_find (n := hs.length) (fun k => (⟨(k : Int)⟩ : S7a)) (lgB hs) (fun k => T7a.x0 true (k : Int)) _ (fun k hk => ?_) ?_
        · unfold stp7a lgB cU cV cL cH
          simp only [lt_true hk, inb_true hk, wrap_succ (show k < 9223372036854775807 by omega), Int.toNat_natCast, cond_true, (k18 _).1, (k18 _).2]
          cases longB (fI (hs.getD k []) 0) <;> cases longB (fI (hs.getD k []) 1) <;> cases longB (fI (hs.getD k []) 2) <;> cases longB (fI (hs.getD k []) 3) <;> rfl
        · unfold stp7a
          rw [lt_false]; rfl
      refine .f rfl (.f rfl ?_)
      cases decide (((ms.length : Nat) : Int) > 60)
      · refine .f rfl ?_
        unfold i7a_0 i7a_1 v7a_0_t2'
        rw [r]
        cases anyN (lgB hs) hs.length
        · exact .f rfl (.t rfl rfl)
        · exact .t rfl rfl
      · exact .t rfl rfl
    · exact .f rfl (.t rfl rfl)
  · exact .t rfl rfl

end Go.Proofs.Ytoglnllbopcejaa

set_option maxRecDepth 100000
set_option maxHeartbeats 0
set_option linter.unusedVariables false
namespace Go.Proofs.Ytoglnllbopcejaa
open Go Go.Ev

noncomputable def c44c : Code := match Try.f44.body with | some c => c | _ => .skip
theorem lok44c : LOK Try.prog S0 (ro 44) (fun _ _ => none) 0 false c44c [] :=
  lok_lo (fun _ _ _ _ _ _ _ h _ => by cases h) c44c [] false (locate_nil _) (by kernel_rfl)
noncomputable def t44c (x : List AV) (es : List (List AV)) : Tr ((List (List AV))) :=
  .cn (((x :: es).length * 16).ble 140737488355328) (.lf (x :: es)) (.nn)
noncomputable def g44c (x : List AV) (es : List (List AV)) : Bool := (t44c x es).g
noncomputable def w44c_0 (x : List AV) (es : List (List AV)) : List (List AV) := (t44c x es).val
theorem eq44c (x : List AV) (es : List (List AV)) : evF Try.prog S0 (ro 44) (fun _ _ => none) Try.f44 [.rs 32 (x :: es)] = (t44c x es).opt (fun (x : (List (List AV))) => (.rs 32 x : AV)) := by kernel_rfl
theorem con44c (x : List AV) (es : List (List AV)) (h : g44c x es = true) : Con Try.prog 44 [.rs 32 (x :: es)] [] (.rs 32 (w44c_0 x es)) [] :=
  con_of S0_ok mixed Try.func44 (c := c44c) rfl (names 44 _ Try.func44) lok44c ((eq44c x es).trans (Tr.sound _ _ h))
-- SPEC 44
end Go.Proofs.Ytoglnllbopcejaa

set_option maxRecDepth 100000
set_option maxHeartbeats 0
set_option linter.unusedVariables false
namespace Go.Proofs.Ytoglnllbopcejaa
open Go Go.Ev

noncomputable def c44n : Code := match Try.f44.body with | some c => c | _ => .skip
theorem lok44n : LOK Try.prog S0 (ro 44) (fun _ _ => none) 0 false c44n [] :=
  lok_lo (fun _ _ _ _ _ _ _ h _ => by cases h) c44n [] false (locate_nil _) (by kernel_rfl)
noncomputable def t44n  : Tr (Unit) :=
  .lf Unit.unit
noncomputable def g44n  : Bool := (t44n ).g
theorem eq44n  : evF Try.prog S0 (ro 44) (fun _ _ => none) Try.f44 [.nl] = (t44n ).opt (fun (x : Unit) => (.nl : AV)) := by kernel_rfl
theorem con44n  (h : g44n  = true) : Con Try.prog 44 [.nl] [] (.nl) [] :=
  con_of S0_ok mixed Try.func44 (c := c44n) rfl (names 44 _ Try.func44) lok44n ((eq44n ).trans (Tr.sound _ _ h))
-- SPEC 44
end Go.Proofs.Ytoglnllbopcejaa

set_option maxRecDepth 100000
set_option maxHeartbeats 0
set_option linter.unusedVariables false
namespace Go.Proofs.Ytoglnllbopcejaa
open Go Go.Ev

noncomputable def c44e : Code := match Try.f44.body with | some c => c | _ => .skip
theorem lok44e : LOK Try.prog S0 (ro 44) (fun _ _ => none) 0 false c44e [] :=
  lok_lo (fun _ _ _ _ _ _ _ h _ => by cases h) c44e [] false (locate_nil _) (by kernel_rfl)
noncomputable def t44e  : Tr ((List (List AV))) :=
  .lf ([])
noncomputable def g44e  : Bool := (t44e ).g
noncomputable def w44e_0  : List (List AV) := (t44e ).val
theorem eq44e  : evF Try.prog S0 (ro 44) (fun _ _ => none) Try.f44 [.e0 false] = (t44e ).opt (fun (x : (List (List AV))) => (.rs 32 x : AV)) := by kernel_rfl
theorem con44e  (h : g44e  = true) : Con Try.prog 44 [.e0 false] [] (.rs 32 (w44e_0 )) [] :=
  con_of S0_ok mixed Try.func44 (c := c44e) rfl (names 44 _ Try.func44) lok44e ((eq44e ).trans (Tr.sound _ _ h))
-- SPEC 44
end Go.Proofs.Ytoglnllbopcejaa

set_option maxRecDepth 100000
set_option maxHeartbeats 0
set_option linter.unusedVariables false
namespace Go.Proofs.Ytoglnllbopcejaa
open Go Go.Ev

noncomputable def c45c : Code := match Try.f45.body with | some c => c | _ => .skip
theorem lok45c : LOK Try.prog S0 (ro 45) (fun _ _ => none) 0 false c45c [] :=
  lok_lo (fun _ _ _ _ _ _ _ h _ => by cases h) c45c [] false (locate_nil _) (by kernel_rfl)
noncomputable def t45c (x : List AV) (es : List (List AV)) : Tr ((List (List AV))) :=
  .cn (((x :: es).length * 32).ble 140737488355328) (.lf (x :: es)) (.nn)
noncomputable def g45c (x : List AV) (es : List (List AV)) : Bool := (t45c x es).g
noncomputable def w45c_0 (x : List AV) (es : List (List AV)) : List (List AV) := (t45c x es).val
theorem eq45c (x : List AV) (es : List (List AV)) : evF Try.prog S0 (ro 45) (fun _ _ => none) Try.f45 [.rs 55 (x :: es)] = (t45c x es).opt (fun (x : (List (List AV))) => (.rs 55 x : AV)) := by kernel_rfl
theorem con45c (x : List AV) (es : List (List AV)) (h : g45c x es = true) : Con Try.prog 45 [.rs 55 (x :: es)] [] (.rs 55 (w45c_0 x es)) [] :=
  con_of S0_ok mixed Try.func45 (c := c45c) rfl (names 45 _ Try.func45) lok45c ((eq45c x es).trans (Tr.sound _ _ h))
-- SPEC 45
end Go.Proofs.Ytoglnllbopcejaa

set_option maxRecDepth 100000
set_option maxHeartbeats 0
set_option linter.unusedVariables false
namespace Go.Proofs.Ytoglnllbopcejaa
open Go Go.Ev

noncomputable def c45n : Code := match Try.f45.body with | some c => c | _ => .skip
theorem lok45n : LOK Try.prog S0 (ro 45) (fun _ _ => none) 0 false c45n [] :=
  lok_lo (fun _ _ _ _ _ _ _ h _ => by cases h) c45n [] false (locate_nil _) (by kernel_rfl)
noncomputable def t45n  : Tr (Unit) :=
  .lf Unit.unit
noncomputable def g45n  : Bool := (t45n ).g
theorem eq45n  : evF Try.prog S0 (ro 45) (fun _ _ => none) Try.f45 [.nl] = (t45n ).opt (fun (x : Unit) => (.nl : AV)) := by kernel_rfl
theorem con45n  (h : g45n  = true) : Con Try.prog 45 [.nl] [] (.nl) [] :=
  con_of S0_ok mixed Try.func45 (c := c45n) rfl (names 45 _ Try.func45) lok45n ((eq45n ).trans (Tr.sound _ _ h))
-- SPEC 45
end Go.Proofs.Ytoglnllbopcejaa

set_option maxRecDepth 100000
set_option maxHeartbeats 0
set_option linter.unusedVariables false
namespace Go.Proofs.Ytoglnllbopcejaa
open Go Go.Ev

noncomputable def c45e : Code := match Try.f45.body with | some c => c | _ => .skip
theorem lok45e : LOK Try.prog S0 (ro 45) (fun _ _ => none) 0 false c45e [] :=
  lok_lo (fun _ _ _ _ _ _ _ h _ => by cases h) c45e [] false (locate_nil _) (by kernel_rfl)
noncomputable def t45e  : Tr ((List (List AV))) :=
  .lf ([])
noncomputable def g45e  : Bool := (t45e ).g
noncomputable def w45e_0  : List (List AV) := (t45e ).val
theorem eq45e  : evF Try.prog S0 (ro 45) (fun _ _ => none) Try.f45 [.e0 false] = (t45e ).opt (fun (x : (List (List AV))) => (.rs 55 x : AV)) := by kernel_rfl
theorem con45e  (h : g45e  = true) : Con Try.prog 45 [.e0 false] [] (.rs 55 (w45e_0 )) [] :=
  con_of S0_ok mixed Try.func45 (c := c45e) rfl (names 45 _ Try.func45) lok45e ((eq45e ).trans (Tr.sound _ _ h))
-- SPEC 45
end Go.Proofs.Ytoglnllbopcejaa

set_option maxRecDepth 100000
set_option linter.unusedVariables false
namespace Go.Proofs.Ytoglnllbopcejaa
open Go Go.Ev
def ro46 (t : Nat) : Bool := cond (Nat.beq t 2000007) false (ro 46 t)
end Go.Proofs.Ytoglnllbopcejaa

set_option maxRecDepth 100000
set_option maxHeartbeats 0
set_option linter.unusedVariables false
namespace Go.Proofs.Ytoglnllbopcejaa
open Go Go.Ev

noncomputable def c46c : Code := match Try.f46.body with | some c => c | _ => .skip
theorem lok46c : LOK Try.prog S0 ro46 (fun _ _ => none) 0 false c46c [] :=
  lok_lo (fun _ _ _ _ _ _ _ h _ => by cases h) c46c [] false (locate_nil _) (by kernel_rfl)
noncomputable def t46c (x : List AV) (es : List (List AV)) : Tr ((Nat) × (List (List AV))) :=
  .cn (((x :: es).length * 32).ble 140737488355328) (.lf ((x :: es).length, x :: es)) (.nn)
noncomputable def g46c (x : List AV) (es : List (List AV)) : Bool := (t46c x es).g
noncomputable def w46c_0 (x : List AV) (es : List (List AV)) : Nat := (t46c x es).val.1
noncomputable def w46c_1 (x : List AV) (es : List (List AV)) : List (List AV) := (t46c x es).val.2
theorem eq46c (x : List AV) (es : List (List AV)) : evN Try.prog S0 ro46 (fun _ _ => none) 5 Try.f46 [.rs 67 (x :: es)] [] = (t46c x es).opt (fun (x : (Nat) × (List (List AV))) => ((.sl 0 0 x.1, [.row 67 x.2]) : AV × List Blk)) := by kernel_rfl
theorem con46c (x : List AV) (es : List (List AV)) (h : g46c x es = true) : Con Try.prog 46 [.rs 67 (x :: es)] [] (.sl 0 0 (w46c_0 x es)) [.row 67 (w46c_1 x es)] :=
  con_ofN S0_ok mixed Try.func46 (c := c46c) rfl (names 46 _ Try.func46) lok46c ((eq46c x es).trans (Tr.sound _ _ h))
-- SPEC 46
end Go.Proofs.Ytoglnllbopcejaa

set_option maxRecDepth 100000
set_option maxHeartbeats 0
set_option linter.unusedVariables false
namespace Go.Proofs.Ytoglnllbopcejaa
open Go Go.Ev

noncomputable def c46n : Code := match Try.f46.body with | some c => c | _ => .skip
theorem lok46n : LOK Try.prog S0 (ro 46) (fun _ _ => none) 0 false c46n [] :=
  lok_lo (fun _ _ _ _ _ _ _ h _ => by cases h) c46n [] false (locate_nil _) (by kernel_rfl)
noncomputable def t46n  : Tr (Unit) :=
  .lf Unit.unit
noncomputable def g46n  : Bool := (t46n ).g
theorem eq46n  : evF Try.prog S0 (ro 46) (fun _ _ => none) Try.f46 [.nl] = (t46n ).opt (fun (x : Unit) => (.nl : AV)) := by kernel_rfl
theorem con46n  (h : g46n  = true) : Con Try.prog 46 [.nl] [] (.nl) [] :=
  con_of S0_ok mixed Try.func46 (c := c46n) rfl (names 46 _ Try.func46) lok46n ((eq46n ).trans (Tr.sound _ _ h))
-- SPEC 46
end Go.Proofs.Ytoglnllbopcejaa

set_option maxRecDepth 100000
set_option maxHeartbeats 0
set_option linter.unusedVariables false
namespace Go.Proofs.Ytoglnllbopcejaa
open Go Go.Ev

noncomputable def c46e : Code := match Try.f46.body with | some c => c | _ => .skip
theorem lok46e : LOK Try.prog S0 ro46 (fun _ _ => none) 0 false c46e [] :=
  lok_lo (fun _ _ _ _ _ _ _ h _ => by cases h) c46e [] false (locate_nil _) (by kernel_rfl)
noncomputable def t46e  : Tr ((Nat)) :=
  .lf (0)
noncomputable def g46e  : Bool := (t46e ).g
noncomputable def w46e_0  : Nat := (t46e ).val
theorem eq46e  : evN Try.prog S0 ro46 (fun _ _ => none) 5 Try.f46 [.e0 false] [] = (t46e ).opt (fun (x : (Nat)) => ((.sl 0 0 x, [.row 67 []]) : AV × List Blk)) := by kernel_rfl
theorem con46e  (h : g46e  = true) : Con Try.prog 46 [.e0 false] [] (.sl 0 0 (w46e_0 )) [.row 67 []] :=
  con_ofN S0_ok mixed Try.func46 (c := c46e) rfl (names 46 _ Try.func46) lok46e ((eq46e ).trans (Tr.sound _ _ h))
-- SPEC 46
end Go.Proofs.Ytoglnllbopcejaa

set_option maxRecDepth 100000
set_option linter.unusedVariables false
namespace Go.Proofs.Ytoglnllbopcejaa
open Go Go.Ev
theorem con44 (es : List (List AV)) (h : Nat.ble (es.length * 16) 140737488355328 = true) : Con Try.prog 44 [.rs 32 es] [] (.rs 32 es) [] := by
  cases es with
  | nil => exact con_nil ((con44n rfl).wkX (.e 32)) (con44e rfl)
  | cons x es =>
    have hg : g44c x es = true := by
      show (Tr.cn _ _ _).g = true
      rw [h]; rfl
    have := con44c x es hg
    have e : w44c_0 x es = x :: es := by
      show (Tr.cn _ _ _).val = _
      rw [h]; rfl
    rw [e] at this
    exact this
noncomputable def e44 (args : List AV) (rows : List Blk) : Option (Bool × AV × List Blk) := match args, rows with
  | [.rs t es], [] => cond (Nat.beq t 32) (some (Nat.ble (es.length * 16) 140737488355328, .rs 32 es, [])) none
  | _, _ => none
theorem e44_ok (args : List AV) (rows : List Blk) (pre : Bool) (v : AV) (rows' : List Blk) (h : e44 args rows = some (pre, v, rows')) (hp : pre = true) : Con Try.prog 44 args rows v rows' := by
  unfold e44 at h
  split at h <;> first | (cases h; done) | skip
  rename_i t es
  obtain ⟨h1, h⟩ := cond_some2 h
  obtain rfl := Nat.eq_of_beq_eq_true h1
  cases h
  exact con44 es hp
theorem con45 (es : List (List AV)) (h : Nat.ble (es.length * 32) 140737488355328 = true) : Con Try.prog 45 [.rs 55 es] [] (.rs 55 es) [] := by
  cases es with
  | nil => exact con_nil ((con45n rfl).wkX (.e 55)) (con45e rfl)
  | cons x es =>
    have hg : g45c x es = true := by
      show (Tr.cn _ _ _).g = true
      rw [h]; rfl
    have := con45c x es hg
    have e : w45c_0 x es = x :: es := by
      show (Tr.cn _ _ _).val = _
      rw [h]; rfl
    rw [e] at this
    exact this
noncomputable def e45 (args : List AV) (rows : List Blk) : Option (Bool × AV × List Blk) := match args, rows with
  | [.rs t es], [] => cond (Nat.beq t 55) (some (Nat.ble (es.length * 32) 140737488355328, .rs 55 es, [])) none
  | _, _ => none
theorem e45_ok (args : List AV) (rows : List Blk) (pre : Bool) (v : AV) (rows' : List Blk) (h : e45 args rows = some (pre, v, rows')) (hp : pre = true) : Con Try.prog 45 args rows v rows' := by
  unfold e45 at h
  split at h <;> first | (cases h; done) | skip
  rename_i t es
  obtain ⟨h1, h⟩ := cond_some2 h
  obtain rfl := Nat.eq_of_beq_eq_true h1
  cases h
  exact con45 es hp
theorem con46 (es : List (List AV)) (h : Nat.ble (es.length * 32) 140737488355328 = true) : Con Try.prog 46 [.rs 67 es] [] (.sl 0 0 es.length) [.row 67 es] := by
  cases es with
  | nil => exact con_nil (con_own_nil (con46n rfl)) (con46e rfl)
  | cons x es =>
    have hg : g46c x es = true := by
      show (Tr.cn _ _ _).g = true
      rw [h]; rfl
    have := con46c x es hg
    have e0 : w46c_0 x es = (x :: es).length := by
      show (Tr.cn (((x :: es).length * 32).ble 140737488355328) (.lf ((x :: es).length, x :: es)) .nn).val.1 = _
      rw [h]; rfl
    have e1 : w46c_1 x es = x :: es := by
      show (Tr.cn (((x :: es).length * 32).ble 140737488355328) (.lf ((x :: es).length, x :: es)) .nn).val.2 = _
      rw [h]; rfl
    rw [e0, e1] at this
    exact this
noncomputable def e46 (args : List AV) (rows : List Blk) : Option (Bool × AV × List Blk) := match args, rows with
  | [.rs t es], [] => cond (Nat.beq t 67) (some (Nat.ble (es.length * 32) 140737488355328, .sl 0 0 es.length, [.row 67 es])) none
  | _, _ => none
theorem e46_ok (args : List AV) (rows : List Blk) (pre : Bool) (v : AV) (rows' : List Blk) (h : e46 args rows = some (pre, v, rows')) (hp : pre = true) : Con Try.prog 46 args rows v rows' := by
  unfold e46 at h
  split at h <;> first | (cases h; done) | skip
  rename_i t es
  obtain ⟨h1, h⟩ := cond_some2 h
  obtain rfl := Nat.eq_of_beq_eq_true h1
  cases h
  exact con46 es hp
noncomputable def SWt : Ev.Spec := insS 46 e46 (insS 45 e45 (insS 44 e44 S0))
theorem SWt_ok : SpecOK Try.prog SWt := insS_ok e46_ok (insS_ok e45_ok (insS_ok e44_ok S0_ok))
def ro23 (t : Nat) : Bool := cond (Nat.beq t 1000030) false (cond (Nat.beq t 1000028) false (ro 23 t))
end Go.Proofs.Ytoglnllbopcejaa

set_option maxRecDepth 100000
set_option maxHeartbeats 0
set_option linter.unusedVariables false
namespace Go.Proofs.Ytoglnllbopcejaa
open Go Go.Ev

noncomputable def c23 : Code := match Try.f23.body with | some c => c | _ => .skip
theorem lok23 : LOK Try.prog SWt ro23 (fun _ _ => none) 0 false c23 [] :=
  lok_lo (fun _ _ _ _ _ _ _ h _ => by cases h) c23 [] false (locate_nil _) (by kernel_rfl)
noncomputable def t23 (os hs : List (List AV)) (st tl th : Int) (ms : List (List AV)) : Tr ((List (List AV)) × (List (List AV)) × (Int) × (Int) × (Int) × (Nat) × (List (List AV))) :=
  .cn ((os.length * 16).ble 140737488355328) (.cn ((hs.length * 32).ble 140737488355328) (.cn ((ms.length * 32).ble 140737488355328 && true) (.lf (os, hs, st, tl, th, ms.length, ms)) (.nn)) (.nn)) (.nn)
noncomputable def g23 (os hs : List (List AV)) (st tl th : Int) (ms : List (List AV)) : Bool := (t23 os hs st tl th ms).g
noncomputable def w23_0 (os hs : List (List AV)) (st tl th : Int) (ms : List (List AV)) : List (List AV) := (t23 os hs st tl th ms).val.1
noncomputable def w23_1 (os hs : List (List AV)) (st tl th : Int) (ms : List (List AV)) : List (List AV) := (t23 os hs st tl th ms).val.2.1
noncomputable def w23_2 (os hs : List (List AV)) (st tl th : Int) (ms : List (List AV)) : Int := (t23 os hs st tl th ms).val.2.2.1
noncomputable def w23_3 (os hs : List (List AV)) (st tl th : Int) (ms : List (List AV)) : Int := (t23 os hs st tl th ms).val.2.2.2.1
noncomputable def w23_4 (os hs : List (List AV)) (st tl th : Int) (ms : List (List AV)) : Int := (t23 os hs st tl th ms).val.2.2.2.2.1
noncomputable def w23_5 (os hs : List (List AV)) (st tl th : Int) (ms : List (List AV)) : Nat := (t23 os hs st tl th ms).val.2.2.2.2.2.1
noncomputable def w23_6 (os hs : List (List AV)) (st tl th : Int) (ms : List (List AV)) : List (List AV) := (t23 os hs st tl th ms).val.2.2.2.2.2.2
theorem eq23 (os hs : List (List AV)) (st tl th : Int) (ms : List (List AV)) : evN Try.prog SWt ro23 (fun _ _ => none) 15 Try.f23 [.agg [.rs 32 os, .rs 55 hs, .i .i64 st, .i .i64 tl, .i .i64 th, .rs 67 ms]] [] = (t23 os hs st tl th ms).opt (fun (x : (List (List AV)) × (List (List AV)) × (Int) × (Int) × (Int) × (Nat) × (List (List AV))) => ((.agg [.rs 32 x.1, .rs 55 x.2.1, .i .i64 x.2.2.1, .i .i64 x.2.2.2.1, .i .i64 x.2.2.2.2.1, .sl 0 0 x.2.2.2.2.2.1], [.row 67 x.2.2.2.2.2.2]) : AV × List Blk)) := by kernel_rfl
theorem con23 (os hs : List (List AV)) (st tl th : Int) (ms : List (List AV)) (h : g23 os hs st tl th ms = true) : Con Try.prog 23 [.agg [.rs 32 os, .rs 55 hs, .i .i64 st, .i .i64 tl, .i .i64 th, .rs 67 ms]] [] (.agg [.rs 32 (w23_0 os hs st tl th ms), .rs 55 (w23_1 os hs st tl th ms), .i .i64 (w23_2 os hs st tl th ms), .i .i64 (w23_3 os hs st tl th ms), .i .i64 (w23_4 os hs st tl th ms), .sl 0 0 (w23_5 os hs st tl th ms)]) [.row 67 (w23_6 os hs st tl th ms)] :=
  con_ofN SWt_ok mixed Try.func23 (c := c23) rfl (names 23 _ Try.func23) lok23 ((eq23 os hs st tl th ms).trans (Tr.sound _ _ h))
noncomputable def e23 (args : List AV) (rows : List Blk) : Option (Bool × AV × List Blk) := match args, rows with
  | [.agg [.rs 32 os, .rs 55 hs, .i .i64 st, .i .i64 tl, .i .i64 th, .rs 67 ms]], [] => some (g23 os hs st tl th ms, .agg [.rs 32 (w23_0 os hs st tl th ms), .rs 55 (w23_1 os hs st tl th ms), .i .i64 (w23_2 os hs st tl th ms), .i .i64 (w23_3 os hs st tl th ms), .i .i64 (w23_4 os hs st tl th ms), .sl 0 0 (w23_5 os hs st tl th ms)], [.row 67 (w23_6 os hs st tl th ms)])
  | _, _ => none
theorem e23_ok (args : List AV) (rows : List Blk) (pre : Bool) (v : AV) (rows' : List Blk) (h : e23 args rows = some (pre, v, rows')) (hp : pre = true) : Con Try.prog 23 args rows v rows' := by
  unfold e23 at h
  split at h
  · cases h; exact con23 _ _ _ _ _ _ hp
  · cases h
-- SPEC 23
end Go.Proofs.Ytoglnllbopcejaa

set_option linter.unusedVariables false
set_option linter.unusedSimpArgs false
namespace Go.Proofs.Ytoglnllbopcejaa
open Go Go.RowKit
theorem copy_rowN {P : Program} (w : World) (dT sT ty elem : TypeId) (g o dLen dCap : Nat) (a : Addr) (sLen sCap s : Nat) (cur : Array Value) (t : TypeId) (cs : List Value)
    (hu : P.underlying dT = some (.slice elem)) (hs : (P.info? elem).map (·.size) = some s)
    (hg : w.heap[g]? = some (.cells cur t (0, 0))) (hn : cs.length = Nat.min sLen dLen * s)
    (hsrc : ∀ j v, cs[j]? = some v → w.cell? (a.add j) = some v) (hfit : o + cs.length ≤ cur.size) (h1 : ∀ v ∈ cs, v.oneCell' = true) :
    (Builtin.copy_ #[dT, sT] ty #[.slice (some ⟨g, o, none⟩) dLen dCap, .slice (some a) sLen sCap]).run P w =
      .ok (goInt (Nat.min sLen dLen)) (w.setRow g (cur.toList.take o ++ cs ++ cur.toList.drop (o + cs.length)).toArray) := by
  have hl := run_loadCells_list (P := P) w a cs hsrc
  have hst := run_storeCells_at P g o t cs 0 cur w hg (by simpa using hfit) h1
  cases hq : P.info? elem with
  | none => simp [hq] at hs
  | some i =>
    have hi : i.size = s := by simpa [hq] using hs
    simp [Builtin.copy_, run_underlying hu, Builtin.lenOf, Builtin.firstCells, sizeOf, typeInfo, hq, hi, ← hn, hl, hst]
theorem wp_copy_runI (w : World) {o : Oper} {a : Act} {K : Act → World → Prop} {Q : Exit → Act → World → Prop} (d s : Operand) (t t' : TypeId)
    (ho : o.op = .call { callee := .builtin .copy, args := #[d, s], argTypes := #[t, t'] }) (v u : Value) (hd : a.eval d = v) (hs : a.eval s = u) {v' : Value} {w' : World}
    (hr : (Builtin.copy_ #[t, t'] o.type #[v, u]).run Try.prog w = .ok v' w') (h : K (a.put o.dst v') w') : o.wp Try.prog a w K Q := by
  unfold Oper.wp execOp
  simp only [ho, resolve, invoke, builtin, Sem.run_bind, Sem.run_pure, Result.andThen_ok, List.map_toArray, List.map_cons, List.map_nil, hd, hs, hr]
  exact h
theorem wpList_copy_runI (w : World) {ops : Array Oper} {rest : List Oper} {o : Oper} {a : Act} {Q : Exit → Act → World → Prop} (hgd : o.guard = none) (d s : Operand) (t t' : TypeId)
    (ho : o.op = .call { callee := .builtin .copy, args := #[d, s], argTypes := #[t, t'] }) (v u : Value) (hd : a.eval d = v) (hs : a.eval s = u) {v' : Value} {w' : World}
    (hr : (Builtin.copy_ #[t, t'] o.type #[v, u]).run Try.prog w = .ok v' w') (h : wpList Try.prog ops Q rest (a.put o.dst v') w') : wpList Try.prog ops Q (o :: rest) a w :=
  wpList_plain hgd fun _ hK => wp_copy_runI w d s t t' ho v u hd hs hr (hK _ _ h)
theorem step_copy_runI {ops : Array Oper} {o : Oper} {a : Act} {w : World} {K : Act → World → Prop} {Q : Exit → Act → World → Prop} {E : Prop}
    (hg : o.guard = none) (d x : Operand) (dT sT : TypeId) (hop : o.op = Op.call { callee := Callee.builtin Builtin.copy, args := #[d, x], argTypes := #[dT, sT] })
    (v u : Value) (hd : a.eval d = v) (hx : a.eval x = u) {v' : Value} {w' : World} (hr : (Builtin.copy_ #[dT, sT] o.type #[v, u]).run Try.prog w = .ok v' w') (hK : K (a.put o.dst v') w') :
    if Region.wanted o (yielded ops a.tmps) = true then Oper.wp Try.prog o a w K Q else E := by
  have hw : Region.wanted o (yielded ops a.tmps) = true := by simp [Region.wanted, hg]
  rw [if_pos hw]
  unfold Oper.wp
  simp [execOp, hop, resolve, invoke, builtin, hd, hx, hr, Result.andThen]
  exact hK
set_option maxHeartbeats 4000000 in
set_option maxRecDepth 100000 in
theorem ins_end (base : Option Addr) (n c vb vc : Nat) (w w' : World) (u : Value) (hr : ∀ ty, (Builtin.append_ #[28, 28] ty #[.slice base n c, .slice (some ⟨vb, 0, none⟩) 1 vc]).run Try.prog w = .ok u w') :
    Calls Try.prog 27 #[.slice base n c, .int .i64 n, .slice (some ⟨vb, 0, none⟩) 1 vc] w fun e w'' => e = .returned u ∧ w'' = w' := by
  go_enter Try.func27, Try.ntmps27
  cases base with
  | none =>
    go_wp2_with (at_builtin; refine Lib.wpList_append_run _ rfl _ _ _ _ rfl _ _ rfl rfl _ _ (hr _) ?_)
    all_goals (go_ret; exact ⟨rfl, rfl⟩)
  | some a =>
    obtain ⟨ab, ao, asp⟩ := a
    go_wp2_with (at_builtin; refine Lib.wpList_append_run _ rfl _ _ _ _ rfl _ _ rfl rfl _ _ (hr _) ?_)
    all_goals (go_ret; exact ⟨rfl, rfl⟩)
end Go.Proofs.Ytoglnllbopcejaa

set_option linter.unusedVariables false
set_option linter.unusedSimpArgs false
namespace Go.Proofs.Ytoglnllbopcejaa
open Go Go.RowKit
set_option maxHeartbeats 4000000 in
set_option maxRecDepth 100000 in
theorem ins_shift (b n c i vb vc : Nat) (w W1 W2 : World) (r1 r2 : Value) (hi : i < n) (hroom : n + 1 ≤ c) (hn63 : n + 1 ≤ 9223372036854775807)
    (hov : ∀ lb cb, (callFunc 49 #[.slice (some ⟨vb, 0, none⟩) 1 vc, .slice (some ⟨b, (i + 1) * 4, none⟩) lb cb]).run Try.prog w = .ok (.value (.bool false)) w)
    (hcp1 : ∀ ty dc sc, (Builtin.copy_ #[28, 28] ty #[.slice (some ⟨b, (i + 1) * 4, none⟩) (n - i) dc, .slice (some ⟨b, i * 4, none⟩) (n + 1 - i) sc]).run Try.prog w.drew = .ok r1 W1)
    (hcp2 : ∀ ty dc, (Builtin.copy_ #[28, 28] ty #[.slice (some ⟨b, i * 4, none⟩) (n + 1 - i) dc, .slice (some ⟨vb, 0, none⟩) 1 vc]).run Try.prog W1 = .ok r2 W2) :
    Calls Try.prog 27 #[.slice (some ⟨b, 0, none⟩) n c, .int .i64 i, .slice (some ⟨vb, 0, none⟩) 1 vc] w fun e w'' => e = .returned (.slice (some ⟨b, 0, none⟩) (n + 1) c) ∧ w'' = W2 := by
  have hz2 : ¬ ((i : Int) = (n : Int)) := by omega
  have hw1 : IntKind.i64.wrap ((i : Int) + 1) = (i : Int) + 1 := by rw [IntKind.wrap_i64]; omega
  have hw2 : IntKind.i64.wrap ((n : Int) + 1) = (n : Int) + 1 := by rw [IntKind.wrap_i64]; omega
  have hb1 : (0 : Int) ≤ (i : Int) + 1 := by omega
  have hb0 : (0 : Int) ≤ (n : Int) + 1 := by omega
  have hin : i ≤ n := by omega
  have htn : ((i : Int) + 1).toNat = i + 1 := by omega
  have htn2 : ((n : Int) + 1).toNat = n + 1 := by omega
  have hb2 : ¬ (c = i + 1) := by omega
  have hb3 : (i : Int) ≤ (n : Int) + 1 := by omega
  have hb4 : ¬ (c = i) := by omega
  have hmixed := mixed
  go_enter Try.func27, Try.ntmps27
  go_wp2_with (simp only [hov])
  go_region_law_o (refine step_copy_runI rfl _ _ 28 28 rfl _ _ (by simp [Act.eval, Act.put]) (by simp [Act.eval, Act.put]) (hcp1 _ _ _) ?_)
  go_wp2_with (at_builtin; refine wpList_copy_runI _ rfl _ _ 28 28 rfl _ _ rfl rfl (hcp2 _ _) ?_)
  go_ret
  exact ⟨rfl, rfl⟩

end Go.Proofs.Ytoglnllbopcejaa

set_option linter.unusedVariables false
set_option linter.unusedSimpArgs false
namespace Go.Proofs.Ytoglnllbopcejaa
open Go Go.RowKit
set_option maxHeartbeats 4000000 in
set_option maxRecDepth 100000 in
theorem ins_grow (b n c i vb vc g G : Nat) (w W0 W1 W2 : World) (r1 r2 : Value) (hi : i < n) (hnc : n ≤ c) (hroom : c < n + 1) (hn63 : n + 1 ≤ 9223372036854775807) (hG : n + 1 ≤ G)
    (hrz : ∀ ty, (Builtin.append_ #[28, 3] ty #[.slice (some ⟨b, 0, none⟩) i c, .int .i64 ((n : Int) + 1 - (i : Int))]).run Try.prog w = .ok (.slice (some ⟨g, 0, none⟩) (n + 1) G) W0)
    (hcpA : ∀ ty dc, (Builtin.copy_ #[28, 28] ty #[.slice (some ⟨g, i * 4, none⟩) (n + 1 - i) dc, .slice (some ⟨vb, 0, none⟩) 1 vc]).run Try.prog W0 = .ok r1 W1)
    (hcpB : ∀ ty dc sc, (Builtin.copy_ #[28, 28] ty #[.slice (some ⟨g, (i + 1) * 4, none⟩) (n - i) dc, .slice (some ⟨b, i * 4, none⟩) (n - i) sc]).run Try.prog W1.drew = .ok r2 W2) :
    Calls Try.prog 27 #[.slice (some ⟨b, 0, none⟩) n c, .int .i64 i, .slice (some ⟨vb, 0, none⟩) 1 vc] w fun e w'' => e = .returned (.slice (some ⟨g, 0, none⟩) (n + 1) G) ∧ w'' = W2 := by
  have hz2 : ¬ ((i : Int) = (n : Int)) := by omega
  have hz3 : (c : Int) < (n : Int) + 1 := by omega
  have hw1 : IntKind.i64.wrap ((i : Int) + 1) = (i : Int) + 1 := by rw [IntKind.wrap_i64]; omega
  have hw2 : IntKind.i64.wrap ((n : Int) + 1) = (n : Int) + 1 := by rw [IntKind.wrap_i64]; omega
  have hw3 : IntKind.i64.wrap ((n : Int) + 1 - (i : Int)) = (n : Int) + 1 - (i : Int) := by rw [IntKind.wrap_i64]; omega
  have hb1 : (0 : Int) ≤ (i : Int) + 1 := by omega
  have hb0 : (0 : Int) ≤ (n : Int) + 1 := by omega
  have hin : i ≤ n := by omega
  have htn : ((i : Int) + 1).toNat = i + 1 := by omega
  have htn2 : ((n : Int) + 1).toNat = n + 1 := by omega
  have hb3 : (i : Int) ≤ (n : Int) + 1 := by omega
  have hb5 : (i : Int) ≤ (n : Int) := by omega
  have hb4 : ¬ (c = i) := by omega
  have hb6 : ¬ (G = i) := by omega
  have hb7 : ¬ (G = i + 1) := by omega
  have hmixed := mixed
  go_enter Try.func27, Try.ntmps27
  go_wp2_with (first
    | (at_builtin; refine Lib.wpList_append_run _ rfl _ _ _ _ rfl _ _ rfl rfl _ _ (hrz _) ?_)
    | (at_builtin; refine wpList_copy_runI _ rfl _ _ 28 28 rfl _ _ rfl rfl (hcpA _ _) ?_))
  go_region_law_o (refine step_copy_runI rfl _ _ 28 28 rfl _ _ (by simp [Act.eval, Act.put]) (by simp [Act.eval, Act.put]) (hcpB _ _ _) ?_)
  go_wp2
  go_ret
  exact ⟨rfl, rfl⟩
end Go.Proofs.Ytoglnllbopcejaa

set_option linter.unusedVariables false
set_option linter.unusedSimpArgs false
namespace Go.Proofs.Ytoglnllbopcejaa
open Go Go.RowKit Go.Ev
theorem cells67 : Try.prog.cellsOf 67 = 4 := by kernel_rfl
theorem ct67 : cts Try.prog 67 = [.int .i64, .int .i64, .int .i64, .int .i64] := by kernel_rfl
theorem und28 : Try.prog.underlying 28 = some (.slice 67) := by kernel_rfl
theorem und3 : Try.prog.underlying 3 = some (.int .i64) := by kernel_rfl
theorem inf67 : ∃ i z, Try.prog.info? 67 = some i ∧ i.zero = some z ∧ i.size = 4 ∧ i.bytes = 32 ∧ z.cells.size = 4 := by
  have h : (Try.prog.info? 67).map (fun i => (i.zero.map fun z => z.cells.size, i.size, i.bytes)) = some (some 4, 4, 32) := by kernel_rfl
  cases hi : Try.prog.info? 67 with
  | none => rw [hi] at h; cases h
  | some i =>
    rw [hi] at h
    simp only [Option.map_some, Option.some.injEq, Prod.mk.injEq] at h
    obtain ⟨h1, h2, h3⟩ := h
    cases hz : i.zero with
    | none => rw [hz] at h1; cases h1
    | some z =>
      rw [hz] at h1
      exact ⟨i, z, rfl, hz, h2, h3, by simpa using h1⟩
theorem append_roomT {P : Program} (w : World) (t ty e : TypeId) (i : TypeInfo) (ht : P.underlying t = some (.slice e)) (hi : P.info? e = some i)
    (g sLen sCap : Nat) (cur : Array Value) (tt : TypeId) (hg : w.heap[g]? = some (.cells cur tt (0, 0)))
    (a : Addr) (m c : Nat) (news : List Value) (hl : news.length = m * i.size) (hnews : ∀ j u, news[j]? = some u → w.cell? (a.add j) = some u) (h1 : ∀ u ∈ news, u.oneCell' = true)
    (hroom : sLen + m ≤ sCap) (hfit : sLen * i.size + news.length ≤ cur.size) :
    (Builtin.append_ #[t, t] ty #[.slice (some ⟨g, 0, none⟩) sLen sCap, .slice (some a) m c]).run P w =
      .ok (.slice (some ⟨g, 0, none⟩) (sLen + m) sCap) (w.setRow g (cur.toList.take (sLen * i.size) ++ news ++ cur.toList.drop (sLen * i.size + news.length)).toArray) := by
  have hf := run_firstCells_some (P := P) w i.size m a m c news hl hnews
  have hst := run_storeCells_at P g (sLen * i.size) tt news 0 cur w hg (by simpa using hfit) h1
  have hadd : (⟨g, 0, none⟩ : Addr).add (sLen * i.size) = ⟨g, sLen * i.size, none⟩ := by unfold Addr.add; split <;> simp_all
  simp [Builtin.append_, run_underlying ht, sizeOf, typeInfo, hi, Builtin.lenOf, hf, hroom, hadd, hst]
def insL (es : List (List AV)) (i : Nat) (m : List AV) : List (List AV) := es.take i ++ m :: es.drop i
theorem insL_len {es : List (List AV)} {i : Nat} {m : List AV} (h : i ≤ es.length) : (insL es i m).length = es.length + 1 := by
  simp [insL]; omega
theorem insL_get {es : List (List AV)} {i : Nat} {m : List AV} (h : i ≤ es.length) (k : Nat) : (insL es i m).getD k [] = if k < i then es.getD k [] else if k = i then m else es.getD (k - 1) [] := by
  unfold insL
  simp only [List.getD_eq_getElem?_getD]
  by_cases h1 : k < i
  · rw [List.getElem?_append_left (by simp; omega), List.getElem?_take]
    simp [h1]
  · rw [List.getElem?_append_right (by simp; omega)]
    have e : (es.take i).length = i := by simp; omega
    rw [e]
    by_cases h2 : k = i
    · subst h2; simp
    · simp only [h1, h2, if_false]
      obtain ⟨d, rfl⟩ : ∃ d, k = i + 1 + d := ⟨k - (i + 1), by omega⟩
      rw [show i + 1 + d - i = d + 1 by omega, List.getElem?_cons_succ, List.getElem?_drop, show i + 1 + d - 1 = i + d by omega]
theorem ins_aft {X : Nat → Nat → Prop} {R : Nat → Option (Nat × Nat × Nat)} {w w' : World} {es : List (List AV)} {m : List AV} {i g G : Nat} {cl : Array Value} {ty : TypeId}
    (hi : i ≤ es.length) (hes : WT Try.prog (.sl 67) (.rs 67 es)) (hm : WTs Try.prog (cts Try.prog 67) m) (hn : es.length + 1 ≤ 9223372036854775807)
    (hR0 : ∀ id, 2 ≤ id → R id = none) (hr1 : RowOK Try.prog (XR X R) R w 1 (.row 67 [m])) (hinj : ∀ s, R 1 ≠ some (g, s)) (hRb : ∀ id b s, R id = some (b, s) → b < w.heap.size)
    (hh : w'.heap[g]? = some (.cells cl ty (0, 0))) (hG : es.length + 1 ≤ G) (hGc : G * 4 ≤ cl.size) (hg : w.heap.size ≤ g ∨ ∃ s, R 0 = some (g, s))
    (hc : ∀ k j, k < es.length + 1 → j < 4 → ∃ v, cl[k * 4 + j]? = some v ∧ VR Try.prog (XR X R) R w (((insL es i m).getD k []).getD j .u) v)
    (hoth : ∀ k, k < w.heap.size → k ≠ g → w'.heap[k]? = w.heap[k]?) (hos : w'.os = w.os) (htp : w'.tape = w.tape) (hou : w'.output = w.output) (hsz : w.heap.size ≤ w'.heap.size) :
    ∃ R', Aft Try.prog X R R' w w' [.row 67 es, .row 67 [m]] [.dead, .row 67 [m], .row 67 (insL es i m)] (.sl 2 0 (es.length + 1)) (.slice (some ⟨g, 0, none⟩) (es.length + 1) G) := by
  obtain ⟨w1, w2, w3⟩ := WT_rs hes
  have hlen := insL_len (m := m) hi
  have hmem : ∀ x, x ∈ insL es i m → x = m ∨ x ∈ es := fun x hx => by
    rcases List.mem_append.1 hx with h | h
    · exact .inr (List.mem_of_mem_take h)
    · rcases List.mem_cons.1 h with h | h
      · exact .inl h
      · exact .inr (List.mem_of_mem_drop h)
  have hW : WT Try.prog (.sl 67) (.rs 67 (insL es i m)) := .sl (by omega) (fun x hx => by
    rcases hmem x hx with rfl | h
    · exact hm.1
    · exact w2 x h) (fun x hx j hj => by
    rcases hmem x hx with rfl | h
    · exact hm.2 j hj
    · exact w3 x h j hj)
  have flat : ∀ {D1 D2 : Nat → Nat → Prop} {R1 R2 : Nat → Option (Nat × Nat × Nat)} {u1 u2 : World} {x : AV} {v : Value} {c : CT}, c = .int .i64 → WT Try.prog c x → VR Try.prog D1 R1 u1 x v → VR Try.prog D2 R2 u2 x v := fun hc hw hv => by
    subst hc
    cases hw
    exact hv.flatAny rfl
  have cint : ∀ j, j < 4 → (cts Try.prog 67).getD j .oth = .int .i64 := fun j hj => by
    rw [ct67]
    match j, hj with
    | 0, _ => rfl
    | 1, _ => rfl
    | 2, _ => rfl
    | 3, _ => rfl
  refine ⟨fun id => if id = 2 then some (g, 4, G) else R id, ?_, fun id hid => ?_, fun id hid => ?_, fun b s e => ?_, ?_, fun id hid => ?_, ?_⟩
  · exact ⟨by simp, by simp⟩
  · have : id ≠ 2 := by simp at hid; omega
    simp [this]
  · have : id ≠ 2 := by simp at hid; omega
    have h2 : 2 ≤ id := by simp at hid; omega
    simp [this, hR0 id h2]
  · simp only [List.length_cons, List.length_nil, if_true, Option.some.injEq, Prod.mk.injEq] at e
    obtain ⟨rfl, rfl⟩ := e
    refine ⟨by simp, (Array.getElem?_eq_some_iff.1 hh).1, ?_⟩
    rcases hg with hg | ⟨s, hg⟩
    · exact .inl hg
    · exact .inr ⟨0, s, by simp, hg, rfl⟩
  · have := VR.sl (P := Try.prog) (D := XR X (fun id => if id = 2 then some (g, 4, G) else R id)) (R := fun id => if id = 2 then some (g, 4, G) else R id) (w := w') (id := 2) (off := 0) (len := es.length + 1) (b := g) (sz := 4) (c := G) (k := G) (by simp) hG hn (by omega) (by omega)
    simpa using this
  · match id, hid with
    | 0, _ => trivial
    | 1, _ =>
      show RowOK Try.prog _ _ w' 1 (.row 67 [m])
      intro hne
      obtain ⟨b, cells, t, ⟨kc, g1, gk⟩, g2, g3, g4, g5, g6, g7⟩ := hr1 hne
      have hbg : b ≠ g := fun e => hinj _ (e ▸ g1)
      refine ⟨b, cells, t, ⟨kc, by simpa using g1, gk⟩, (hoth b (hRb 1 b _ g1) hbg).trans g2, g3, g4, g5, g6, fun k j hk hj => ?_⟩
      obtain ⟨v, q1, q2⟩ := g7 k j hk hj
      rw [cells67] at hj
      have hk0 : k = 0 := by simpa using hk
      subst hk0
      exact ⟨v, q1, flat (cint j hj) (hm.2 j (by rw [hm.1, ct67]; exact hj)) q2⟩
    | 2, _ =>
      show RowOK Try.prog _ _ w' 2 (.row 67 (insL es i m))
      intro _
      refine ⟨g, cl, ty, ⟨G, by simp [cells67], by rw [cells67]; exact hGc⟩, hh, by rw [ct67, cells67]; rfl, by rw [cells67]; decide, by rw [hlen, cells67]; omega, hW, fun k j hk hj => ?_⟩
      rw [cells67] at hj ⊢
      rw [hlen] at hk
      obtain ⟨v, q1, q2⟩ := hc k j hk hj
      obtain ⟨z1, z2, z3⟩ := WT_rs hW
      have hx := getD_mem' (show k < (insL es i m).length by omega)
      exact ⟨v, q1, flat (cint j hj) (z3 _ hx j (by rw [z2 _ hx, ct67]; exact hj)) q2⟩
    | k + 3, h => simp at h; omega
  · exact ⟨hos, htp, hou, hsz, fun k hk hY => hoth k hk fun e => by
      subst e
      rcases hg with hg | ⟨s, hg⟩
      · exact absurd hk (by show ¬ k < w.heap.size; omega)
      · exact hY ⟨0, s, hg⟩⟩
end Go.Proofs.Ytoglnllbopcejaa

set_option linter.unusedVariables false
set_option linter.unusedSimpArgs false
namespace Go.Proofs.Ytoglnllbopcejaa
open Go Go.RowKit Go.Ev
theorem hc_of {D : Nat → Nat → Prop} {R : Nat → Option (Nat × Nat × Nat)} {w : World} {es : List (List AV)} {m : List AV} {i : Nat} {cl cur cv : Array Value} (hi : i ≤ es.length)
    (he : ∀ k j, k < es.length → j < 4 → ∃ v, cur[k * 4 + j]? = some v ∧ VR Try.prog D R w ((es.getD k []).getD j .u) v)
    (hm : ∀ j, j < 4 → ∃ v, cv[j]? = some v ∧ VR Try.prog D R w (m.getD j .u) v)
    (h1 : ∀ q, q < i * 4 → cl[q]? = cur[q]?) (h2 : ∀ j, j < 4 → cl[i * 4 + j]? = cv[j]?) (h3 : ∀ q, (i + 1) * 4 ≤ q → q < (es.length + 1) * 4 → cl[q]? = cur[q - 4]?) :
    ∀ k j, k < es.length + 1 → j < 4 → ∃ v, cl[k * 4 + j]? = some v ∧ VR Try.prog D R w (((insL es i m).getD k []).getD j .u) v := by
  intro k j hk hj
  rw [insL_get hi]
  by_cases c1 : k < i
  · simp only [c1, if_true]
    rw [h1 _ (by omega)]
    exact he k j (by omega) hj
  · by_cases c2 : k = i
    · subst c2
      simp only [c1, if_false, if_true]
      rw [h2 j hj]
      exact hm j hj
    · simp only [c1, c2, if_false]
      rw [h3 _ (by omega) (by omega), show k * 4 + j - 4 = (k - 1) * 4 + j by omega]
      exact he (k - 1) j (by omega) hj
theorem add0 (b o j : Nat) : (⟨b, o, none⟩ : Addr).add j = ⟨b, o + j, none⟩ := add_plain' b o j
theorem tk_get {α : Type} (l : List α) (a q : Nat) (h : q < a) : (l.take a)[q]? = l[q]? := by
  rw [List.getElem?_take]; simp [h]
theorem con27 (es : List (List AV)) (i : Nat) (m : List AV) (hi : i ≤ es.length) (hb : (es.length + 1) * 32 ≤ 140737488355328) :
    Con Try.prog 27 [.sl 0 0 es.length, .i .i64 i, .sl 1 0 1] [.row 67 es, .row 67 [m]] (.sl 2 0 (es.length + 1)) [.dead, .row 67 [m], .row 67 (insL es i m)] := by
  refine ⟨⟨Try.f27, Try.func27, names 27 _ Try.func27, by kernel_rfl⟩, fun X R w av hX hR0 hRb hinj hrow hs hv => ?_⟩
  obtain ⟨i0, z, hin, hz, hsz, hby, hzs⟩ := inf67
  have hv0 := hv 0 (by simp)
  have hv1 := hv 1 (by simp)
  have hv2 := hv 2 (by simp)
  have hr0 := hrow 0 (by simp)
  have hr1 := hrow 1 (by simp)
  simp only [List.getD_cons_zero, List.getD_cons_succ] at hv0 hv1 hv2 hr0 hr1
  have hav : av = #[av.getD 0 undef, av.getD 1 undef, av.getD 2 undef] := by
    have hs3 : av.size = 3 := hs
    apply Array.ext
    · simp [hs3]
    · intro k h1 h2
      have h3 : k < 3 := by omega
      match k, h3 with
      | 0, _ => simp [Array.getD_eq_getD_getElem?, hs3]
      | 1, _ => simp [Array.getD_eq_getD_getElem?, hs3]
      | 2, _ => simp [Array.getD_eq_getD_getElem?, hs3]
  rw [hav]
  generalize av.getD 0 undef = a0 at hv0
  generalize av.getD 1 undef = a1 at hv1
  generalize av.getD 2 undef = a2 at hv2
  obtain ⟨rfl, _, _⟩ := hv1.int_inv
  obtain ⟨vb, cv, t1, ⟨k1, g1, gk1⟩, g2, g3, g4, g5, g6, g7⟩ := hr1 (by simp)
  rw [cells67] at g1 gk1 g5 g7
  have hm67 : WTs Try.prog (cts Try.prog 67) m := by
    obtain ⟨_, z2, z3⟩ := WT_rs g6
    exact ⟨z2 m (by simp), z3 m (by simp)⟩
  have hes67 : WT Try.prog (.sl 67) (.rs 67 es) := by
    by_cases hes : es = []
    · subst hes
      exact .sl (by simp) (fun x hx => by simp at hx) (fun x hx => by simp at hx)
    · obtain ⟨_, _, _, _, _, _, _, _, q6, _⟩ := hr0 hes
      exact q6
  have g7 : ∀ j, j < 4 → ∃ v, cv[j]? = some v ∧ VR Try.prog (XR X R) R w (m.getD j .u) v := fun j hj => by
    have := g7 0 j (by simp) hj
    simpa using this
  have g5 : 4 ≤ cv.size := by simpa using g5
  have hv2' : ∃ vc, a2 = .slice (some ⟨vb, 0, none⟩) 1 vc := by
    cases hv2 with
    | @sl _ _ _ b sz c k q1 q2 q3 q4 q5 =>
      rw [g1] at q1
      simp only [Option.some.injEq, Prod.mk.injEq] at q1
      obtain ⟨rfl, rfl, rfl⟩ := q1
      exact ⟨c, by simp⟩
  obtain ⟨vc, rfl⟩ := hv2'
  -- the new element's cells
  have hnl : (cv.toList.take 4).length = 4 := by simp; omega
  have hnc : ∀ j u, (cv.toList.take 4)[j]? = some u → w.cell? ((⟨vb, 0, none⟩ : Addr).add j) = some u := fun j u hj => by
    have hj4 : j < 4 := by have := (List.getElem?_eq_some_iff.1 hj).1; omega
    rw [tk_get _ _ _ hj4] at hj
    rw [add0]
    simpa [World.cell?, g2] using hj
  have one : ∀ {x : AV} {v : Value}, WT Try.prog (.int .i64) x → VR Try.prog (XR X R) R w x v → v.oneCell' = true := fun hw hv => oneCell_of (d := 8) rfl hw hv
  have cint : ∀ j, j < 4 → (cts Try.prog 67).getD j .oth = .int .i64 := fun j hj => by
    rw [ct67]
    match j, hj with
    | 0, _ => rfl
    | 1, _ => rfl
    | 2, _ => rfl
    | 3, _ => rfl
  have hn1 : ∀ u ∈ cv.toList.take 4, u.oneCell' = true := fun u hu => by
    obtain ⟨j, hj, rfl⟩ := List.mem_iff_getElem.1 hu
    have hj4 : j < 4 := by omega
    obtain ⟨v, q1, q2⟩ := g7 j hj4
    have e : (cv.toList.take 4)[j] = v := by
      have := tk_get cv.toList 4 j hj4
      rw [List.getElem?_eq_getElem hj] at this
      rw [Array.getElem?_toList, q1] at this
      simpa using this
    rw [e]
    have := hm67.2 j (by rw [hm67.1, ct67]; exact hj4)
    rw [cint j hj4] at this
    exact one this q2
  have hvbl : vb < w.heap.size := (hRb 1 vb _ g1).1
  have fin : ∀ {g G : Nat} {cl : Array Value} {ty : TypeId} {cur : Array Value} {w' : World},
      (∀ k j, k < es.length → j < 4 → ∃ v, cur[k * 4 + j]? = some v ∧ VR Try.prog (XR X R) R w ((es.getD k []).getD j .u) v) → (∀ s, R 1 ≠ some (g, s)) → w'.heap[g]? = some (.cells cl ty (0, 0)) → es.length + 1 ≤ G → G * 4 ≤ cl.size → (w.heap.size ≤ g ∨ ∃ s, R 0 = some (g, s)) →
      (∀ q, q < i * 4 → cl[q]? = cur[q]?) → (∀ j, j < 4 → cl[i * 4 + j]? = cv[j]?) → (∀ q, (i + 1) * 4 ≤ q → q < (es.length + 1) * 4 → cl[q]? = cur[q - 4]?) →
      (∀ k, k < w.heap.size → k ≠ g → w'.heap[k]? = w.heap[k]?) → w'.os = w.os → w'.tape = w.tape → w'.output = w.output → w.heap.size ≤ w'.heap.size →
      ∃ v' R', Ending.returned (.slice (some ⟨g, 0, none⟩) (es.length + 1) G) = .returned v' ∧ Aft Try.prog X R R' w w' [.row 67 es, .row 67 [m]] [.dead, .row 67 [m], .row 67 (insL es i m)] (.sl 2 0 (es.length + 1)) v' := by
    intro g G cl ty cur w' h0 h1 h2 h3 h4 h5 h6 h7 h8 h9 h10 h11 h12 h13
    obtain ⟨R', hA⟩ := ins_aft hi hes67 hm67 (by omega) (fun id hid => hR0 id (by simpa using hid)) hr1 h1 (fun id b s e => (hRb id b s e).1) h2 h3 h4 h5 (hc_of hi h0 g7 h6 h7 h8) h9 h10 h11 h12 h13
    exact ⟨_, R', rfl, hA⟩
  have hne1 : ∀ s, R 1 ≠ some (w.heap.size, s) := fun s e => by have := (hRb 1 _ s e).1; omega
  -- an append that makes a new row
  have grew : ∀ (cur : Array Value) (W : World) (Z : List Value), (∀ k j, k < es.length → j < 4 → ∃ v, cur[k * 4 + j]? = some v ∧ VR Try.prog (XR X R) R w ((es.getD k []).getD j .u) v) → es.length * 4 ≤ cur.size → i = es.length →
      ∀ c, W = w.drew.alloc (.cells ((cur.toList.take (es.length * 4)).toArray ++ (cv.toList.take 4).toArray ++ Z.toArray) 67) → Z.length = (grownCap w (es.length + 1) c 67 - (es.length + 1)) * 4 →
      ∃ v' R', Ending.returned (.slice (some ⟨w.heap.size, 0, none⟩) (es.length + 1) (grownCap w (es.length + 1) c 67)) = .returned v' ∧ Aft Try.prog X R R' w W [.row 67 es, .row 67 [m]] [.dead, .row 67 [m], .row 67 (insL es i m)] (.sl 2 0 (es.length + 1)) v' := by
    intro cur W Z h0 hcs hie c hW hZ
    have hge := grownCap_ge w (es.length + 1) c 67
    have hl1 : (cur.toList.take (es.length * 4)).length = es.length * 4 := by simp; omega
    have hnew : W.heap[w.heap.size]? = some (.cells ((cur.toList.take (es.length * 4)).toArray ++ (cv.toList.take 4).toArray ++ Z.toArray) 67 (0, 0)) := by
      rw [hW]; exact World.alloc_heap_new w.drew _
    have hB : Below w.heap.size w W := by
      rw [hW]
      exact (below_drew w).alloc (by show w.heap.size ≤ w.heap.size; omega) _
    refine fin (cur := cur) h0 hne1 hnew hge (by simp only [Array.size_append, List.size_toArray, hl1, hnl, hZ]; omega) (.inl (Nat.le_refl _)) (fun q hq => ?_) (fun j hj => ?_) (fun q hq hq2 => ?_) (fun k hk _ => hB.block k hk) hB.os hB.tape hB.output hB.size
    · subst hie
      rw [Array.getElem?_append_left (by simp only [Array.size_append, List.size_toArray, hl1, hnl]; omega), Array.getElem?_append_left (by simp only [List.size_toArray, hl1]; omega), List.getElem?_toArray, tk_get _ _ _ hq, Array.getElem?_toList]
    · subst hie
      rw [Array.getElem?_append_left (by simp only [Array.size_append, List.size_toArray, hl1, hnl]; omega), Array.getElem?_append_right (by simp only [List.size_toArray, hl1]; omega), List.getElem?_toArray]
      simp only [List.size_toArray, hl1, Nat.add_sub_cancel_left]
      rw [tk_get _ _ _ hj, Array.getElem?_toList]
    · omega
  by_cases hes : es = []
  · subst hes
    have hi0 : i = 0 := by simpa using hi
    subst hi0
    have ha : ∃ a, a0 = .slice a 0 0 := by
      cases hv0 with
      | sl0 => exact ⟨_, rfl⟩
      | sl _ _ _ _ h => exact absurd h (by simp)
    obtain ⟨a, rfl⟩ := ha
    have hrun : ∀ ty, ∃ Z : List Value, Z.length = (grownCap w (0 + 1) 0 67 - (0 + 1)) * 4 ∧ (Builtin.append_ #[28, 28] ty #[.slice a 0 0, .slice (some ⟨vb, 0, none⟩) 1 vc]).run Try.prog w =
        .ok (.slice (some ⟨w.heap.size, 0, none⟩) (0 + 1) (grownCap w (0 + 1) 0 67)) (w.drew.alloc (.cells ((([] : List Value)).toArray ++ (cv.toList.take 4).toArray ++ (Builtin.zeroCells z.cells (grownCap w (0 + 1) 0 67 - (0 + 1))).toList.toArray) 67)) ∧ Z = (Builtin.zeroCells z.cells (grownCap w (0 + 1) 0 67 - (0 + 1))).toList := by
      intro ty
      refine ⟨_, by simp [size_zeroCells, hzs], ?_, rfl⟩
      cases a with
      | none =>
        rw [run_append_nil (P := Try.prog) w 28 ty 67 i0 z und28 hin hz ⟨vb, 0, none⟩ 1 vc (cv.toList.take 4) (by rw [hnl, hsz]) hnc (by omega) (by omega) (by rw [hby]; omega)]
        simp
      | some a =>
        rw [run_append_grow (P := Try.prog) w 28 ty 67 i0 z und28 hin hz a 0 0 [] (by simp) (by simp) ⟨vb, 0, none⟩ 1 vc (cv.toList.take 4) (by rw [hnl, hsz]) hnc (by omega) (by omega) (by rw [hby]; decide)]
    have hZ := (hrun 0).choose_spec
    refine (ins_end a 0 0 vb vc w _ _ (fun ty => (hrun ty).choose_spec.2.1)).mono ?_
    rintro e W ⟨rfl, rfl⟩
    exact grew #[] _ (Builtin.zeroCells z.cells (grownCap w (0 + 1) 0 67 - (0 + 1))).toList (fun k j hk => by simp at hk) (by simp) rfl 0 rfl (by simp [size_zeroCells, hzs])
  · have hpos : 0 < es.length := List.length_pos_iff.2 hes
    obtain ⟨b0, cur, t0, ⟨k0, q1, qk⟩, q2, q3, q4, q5, q6, q7⟩ := hr0 hes
    rw [cells67] at q1 qk q5 q7
    have ha : ∃ c, a0 = .slice (some ⟨b0, 0, none⟩) es.length c ∧ es.length ≤ c ∧ c ≤ k0 := by
      generalize hnn : es.length = nn at hv0 hpos
      cases hv0 with
      | sl0 => omega
      | @sl _ _ _ b sz c k p1 p2 p3 p4 p5 =>
        rw [q1] at p1
        simp only [Option.some.injEq, Prod.mk.injEq] at p1
        obtain ⟨rfl, rfl, rfl⟩ := p1
        exact ⟨c, by simp, p2, by omega⟩
    obtain ⟨c, rfl, hnc', hck⟩ := ha
    have hbl : b0 < w.heap.size := (hRb 0 b0 _ q1).1
    have hbv : b0 ≠ vb := fun e => by
      have := hinj 0 1 vb (4, k0) (4, k1) (e ▸ q1) g1
      cases this
    have hel : ∀ k j, k < es.length → j < 4 → ∃ v, cur[k * 4 + j]? = some v ∧ VR Try.prog (XR X R) R w ((es.getD k []).getD j .u) v := q7
    have hcell : ∀ q, q < es.length * 4 → ∃ v, cur[q]? = some v ∧ v.oneCell' = true := fun q hq => by
      obtain ⟨v, p1, p2⟩ := hel (q / 4) (q % 4) (by omega) (by omega)
      rw [show q / 4 * 4 + q % 4 = q by omega] at p1
      refine ⟨v, p1, ?_⟩
      obtain ⟨z1, z2, z3⟩ := WT_rs hes67
      have hx := getD_mem' (show q / 4 < es.length by omega)
      have := z3 _ hx (q % 4) (by rw [z2 _ hx, ct67]; show q % 4 < 4; omega)
      rw [cint _ (by omega)] at this
      exact one this p2
    have hne0 : ∀ s, R 1 ≠ some (b0, s) := fun s e => by
      have := hinj 1 0 b0 s (4, k0) e q1
      cases this
    have hnl' : (cur.toList.take (es.length * 4)).length = es.length * 4 := by simp; omega
    have hoc : ∀ j u, (cur.toList.take (es.length * 4))[j]? = some u → w.cell? ((⟨b0, 0, none⟩ : Addr).add j) = some u := fun j u hj => by
      have hj4 : j < es.length * 4 := by have := (List.getElem?_eq_some_iff.1 hj).1; omega
      rw [tk_get _ _ _ hj4] at hj
      rw [add0]
      simpa [World.cell?, q2] using hj
    by_cases hin' : i = es.length
    · subst hin'
      by_cases hroom : es.length + 1 ≤ c
      · have hfit : es.length * i0.size + (cv.toList.take 4).length ≤ cur.size := by rw [hsz, hnl]; omega
        have hrun := fun ty => append_roomT (P := Try.prog) w 28 ty 67 i0 und28 hin b0 es.length c cur t0 q2 ⟨vb, 0, none⟩ 1 vc (cv.toList.take 4) (by rw [hnl, hsz]) hnc hn1 hroom hfit
        rw [hsz] at hrun
        refine (ins_end (some ⟨b0, 0, none⟩) es.length c vb vc w _ _ hrun).mono ?_
        rintro e W ⟨rfl, rfl⟩
        have hget : ∀ k, (cur.toList.take (es.length * 4) ++ cv.toList.take 4 ++ cur.toList.drop (es.length * 4 + (cv.toList.take 4).length))[k]? = if k < es.length * 4 then cur.toList[k]? else if k < es.length * 4 + (cv.toList.take 4).length then (cv.toList.take 4)[k - es.length * 4]? else cur.toList[k]? :=
          fun k => splice_get _ _ _ _ (by simp only [Array.length_toList]; rw [hnl]; omega)
        refine fin (cur := cur) hel hne0 (setRow_heap w b0 cur _ t0 _ q2) hroom ?_ (.inr ⟨_, q1⟩) (fun q hq => ?_) (fun j hj => ?_) (fun q hq hq2 => by omega) (fun k _ hk => setRow_other w b0 k _ hk) rfl rfl rfl (by simp)
        · simp only [List.size_toArray, List.length_append, hnl', hnl, List.length_drop, Array.length_toList]; omega
        · rw [List.getElem?_toArray, hget]; simp [hq]
        · rw [List.getElem?_toArray, hget, hnl]
          simp only [show ¬ es.length * 4 + j < es.length * 4 by omega, show es.length * 4 + j < es.length * 4 + 4 by omega, if_true, if_false, Nat.add_sub_cancel_left]
          rw [tk_get _ _ _ hj, Array.getElem?_toList]
      · have hrun := fun ty => run_append_grow (P := Try.prog) w 28 ty 67 i0 z und28 hin hz ⟨b0, 0, none⟩ es.length c (cur.toList.take (es.length * 4)) (by rw [hnl', hsz]) hoc ⟨vb, 0, none⟩ 1 vc (cv.toList.take 4) (by rw [hnl, hsz]) hnc (by omega) (by omega) (by rw [hby]; exact growslice_fits (by omega) hb)
        refine (ins_end (some ⟨b0, 0, none⟩) es.length c vb vc w _ _ hrun).mono ?_
        rintro e W ⟨rfl, rfl⟩
        exact grew cur _ (Builtin.zeroCells z.cells (grownCap w (es.length + 1) c 67 - (es.length + 1))).toList hel (by omega) rfl c (by simp) (by simp [size_zeroCells, hzs])
    · have hlt : i < es.length := by omega
      -- what stands behind the place
      have hdl : ((cur.toList.take (es.length * 4)).drop (i * 4)).length = (es.length - i) * 4 := by rw [List.length_drop, hnl', Nat.sub_mul]
      have hdc : ∀ j u, ((cur.toList.take (es.length * 4)).drop (i * 4))[j]? = some u → cur[i * 4 + j]? = some u := fun j u hj => by
        have hj4 : j < (es.length - i) * 4 := by have := (List.getElem?_eq_some_iff.1 hj).1; omega
        rw [List.getElem?_drop, tk_get _ _ _ (by rw [Nat.sub_mul] at hj4; omega)] at hj
        rw [← Array.getElem?_toList]; exact hj
      have hd1 : ∀ u ∈ (cur.toList.take (es.length * 4)).drop (i * 4), u.oneCell' = true := fun u hu => by
        obtain ⟨j, hj, rfl⟩ := List.mem_iff_getElem.1 hu
        have hj4 : i * 4 + j < es.length * 4 := by rw [hdl, Nat.sub_mul] at hj; omega
        obtain ⟨v, p1, p2⟩ := hcell _ hj4
        have := hdc j _ (List.getElem?_eq_getElem hj)
        rw [p1] at this
        simp only [Option.some.injEq] at this
        rw [← this]; exact p2
      have hsz4 : (Try.prog.info? 67).map (·.size) = some 4 := by rw [hin]; simp [hsz]
      by_cases hroom : es.length + 1 ≤ c
      · have hov : ∀ lb cb, (callFunc 49 #[.slice (some ⟨vb, 0, none⟩) 1 vc, .slice (some ⟨b0, (i + 1) * 4, none⟩) lb cb]).run Try.prog w = .ok (.value (.bool false)) w := fun lb cb => by
          rw [run_callFunc_extern Try.func49 (by kernel_rfl) (by kernel_rfl) (by kernel_rfl) (e := Extern.SlicesOverlaps.overlaps #[28, 28] #[4]) (by kernel_rfl),
            Lib.run_overlaps_apart w 28 4 67 und28 4 (fun w => by rw [run_sizeOf' (by rw [cells67]; decide), cells67]) ⟨vb, 0, none⟩ ⟨b0, (i + 1) * 4, none⟩ 1 vc lb cb (Ne.symm hbv) t1 t0 cv.size cur.size (by simp [World.shape?, g2]) (by simp [World.shape?, q2]) (by omega) (by simp [World.frozen?, g2]) (by simp [World.frozen?, g2])]
          rfl
        have hcs4 : (es.length + 1) * 4 ≤ cur.size := by omega
        have hcp1 := fun ty dc sc => copy_rowN (P := Try.prog) w.drew 28 28 ty 67 b0 ((i + 1) * 4) (es.length - i) dc ⟨b0, i * 4, none⟩ (es.length + 1 - i) sc 4 cur t0 ((cur.toList.take (es.length * 4)).drop (i * 4)) und28 hsz4 q2 (by rw [hdl, show Nat.min (es.length + 1 - i) (es.length - i) = es.length - i from Nat.min_eq_right (by omega)])
          (fun j v hj => by
            have := hdc j v hj
            rw [add0]
            show w.cell? _ = _
            simp [World.cell?, q2, this]) (by rw [hdl, Nat.sub_mul]; omega) hd1
        generalize hcur1 : (cur.toList.take ((i + 1) * 4) ++ (cur.toList.take (es.length * 4)).drop (i * 4) ++ cur.toList.drop ((i + 1) * 4 + ((cur.toList.take (es.length * 4)).drop (i * 4)).length)).toArray = cur1 at hcp1
        have hget1 : ∀ k, cur1[k]? = if k < (i + 1) * 4 then cur[k]? else if k < (es.length + 1) * 4 then cur[k - 4]? else cur[k]? := fun k => by
          rw [← hcur1, List.getElem?_toArray, splice_get _ _ _ _ (by rw [hdl, Nat.sub_mul]; simp only [Array.length_toList]; omega), hdl, Nat.sub_mul]
          by_cases h1 : k < (i + 1) * 4
          · simp [h1]
          · by_cases h2 : k < (es.length + 1) * 4
            · simp only [h1, h2, if_false, if_true, show k < (i + 1) * 4 + (es.length * 4 - i * 4) by omega]
              rw [List.getElem?_drop, show i * 4 + (k - (i + 1) * 4) = k - 4 by omega, tk_get _ _ _ (by omega), Array.getElem?_toList]
            · simp only [h1, h2, if_false, show ¬ k < (i + 1) * 4 + (es.length * 4 - i * 4) by omega]
              rw [Array.getElem?_toList]
        have hsz1 : cur1.size = cur.size := by
          rw [← hcur1]
          simp only [List.size_toArray, List.length_append, hdl, List.length_take, List.length_drop, Array.length_toList, Nat.sub_mul]; omega
        generalize hW1 : w.drew.setRow b0 cur1 = W1 at hcp1
        have hW1b : W1.heap[b0]? = some (.cells cur1 t0 (0, 0)) := by rw [← hW1]; exact setRow_heap w.drew b0 cur _ t0 _ q2
        have hW1o : ∀ k, k ≠ b0 → W1.heap[k]? = w.heap[k]? := fun k hk => by rw [← hW1]; exact setRow_other w.drew b0 k _ hk
        have hcp2 := fun ty dc => copy_rowN (P := Try.prog) W1 28 28 ty 67 b0 (i * 4) (es.length + 1 - i) dc ⟨vb, 0, none⟩ 1 vc 4 cur1 t0 (cv.toList.take 4) und28 hsz4 hW1b (by rw [hnl, show Nat.min 1 (es.length + 1 - i) = 1 from Nat.min_eq_left (by omega)])
          (fun j v hj => (World.cell?_of_block (by rw [add0]; exact hW1o vb (Ne.symm hbv))).trans (hnc j v hj)) (by rw [hnl]; omega) hn1
        refine (ins_shift b0 es.length c i vb vc w W1 _ _ _ hlt hroom (by omega) hov hcp1 hcp2).mono ?_
        rintro e W ⟨rfl, rfl⟩
        have hget2 : ∀ k, (cur1.toList.take (i * 4) ++ cv.toList.take 4 ++ cur1.toList.drop (i * 4 + (cv.toList.take 4).length))[k]? = if k < i * 4 then cur1.toList[k]? else if k < i * 4 + (cv.toList.take 4).length then (cv.toList.take 4)[k - i * 4]? else cur1.toList[k]? :=
          fun k => splice_get _ _ _ _ (by simp only [Array.length_toList]; rw [hnl]; omega)
        refine fin (cur := cur) hel hne0 (setRow_heap W1 b0 cur1 _ t0 _ hW1b) hroom ?_ (.inr ⟨_, q1⟩) (fun q hq => ?_) (fun j hj => ?_) (fun q hq hq2 => ?_) (fun k _ hk => (setRow_other W1 b0 k _ hk).trans (hW1o k hk)) (by rw [← hW1]; rfl) (by rw [← hW1]; rfl) (by rw [← hW1]; rfl) (by rw [← hW1]; simp [World.setRow])
        · simp only [List.size_toArray, List.length_append, hnl, List.length_take, List.length_drop, Array.length_toList, hsz1]; omega
        · rw [List.getElem?_toArray, hget2, Array.getElem?_toList, hget1]
          simp [hq, show q < (i + 1) * 4 by omega]
        · rw [List.getElem?_toArray, hget2, hnl]
          simp only [show ¬ i * 4 + j < i * 4 by omega, show i * 4 + j < i * 4 + 4 by omega, if_true, if_false, Nat.add_sub_cancel_left]
          rw [tk_get _ _ _ hj, Array.getElem?_toList]
        · rw [List.getElem?_toArray, hget2, hnl, Array.getElem?_toList, hget1]
          simp only [show ¬ q < i * 4 by omega, show ¬ q < i * 4 + 4 by omega, show ¬ q < (i + 1) * 4 by omega, hq2, if_true, if_false]
      · have hold : (Builtin.firstCells i0.size i (.slice (some ⟨b0, 0, none⟩) i c)).run Try.prog w.drew = .ok (cur.toList.take (i * 4)).toArray w.drew := by
          rw [hsz]
          exact run_firstCells_some (P := Try.prog) w.drew 4 i ⟨b0, 0, none⟩ i c (cur.toList.take (i * 4)) (by simp; omega) (fun j v hj => by
            have hj4 : j < i * 4 := by have := (List.getElem?_eq_some_iff.1 hj).1; simp at this; omega
            rw [tk_get _ _ _ hj4] at hj
            rw [add0]
            show w.cell? _ = _
            simpa [World.cell?, q2] using hj)
        have hge := grownCap_ge w (es.length + 1) c 67
        have hli : (cur.toList.take (i * 4)).length = i * 4 := by simp; omega
        have hkn : i + (es.length + 1 - i) = es.length + 1 := by omega
        have hrz := fun ty => Lib.run_append_grow_zeros (P := Try.prog) w 28 3 ty 67 i0 z .i64 .i64 und28 und3 hin hz (some ⟨b0, 0, none⟩) i c _ hold (es.length + 1 - i) (by omega) (by omega) (by omega) (by omega) (by rw [hby]; omega) (by rw [hby, hkn]; exact growslice_fits (by omega) hb)
        rw [hkn, show (((es.length + 1 - i : Nat)) : Int) = (es.length : Int) + 1 - (i : Int) by omega] at hrz
        generalize hG : grownCap w (es.length + 1) c 67 = G at hrz hge
        generalize hROW : (cur.toList.take (i * 4)).toArray ++ Builtin.zeroCells z.cells (es.length + 1 - i) ++ Builtin.zeroCells z.cells (G - (es.length + 1)) = ROW at hrz
        have hRs : ROW.size = G * 4 := by
          rw [← hROW]
          simp only [Array.size_append, List.size_toArray, hli, size_zeroCells, hzs]; omega
        have hRget : ∀ k, k < i * 4 → ROW[k]? = cur[k]? := fun k hk => by
          rw [← hROW, Array.getElem?_append_left (by simp only [Array.size_append, List.size_toArray, hli]; omega), Array.getElem?_append_left (by simp only [List.size_toArray, hli]; omega), List.getElem?_toArray, tk_get _ _ _ hk, Array.getElem?_toList]
        generalize hW0 : w.drew.alloc (.cells ROW 67) = W0 at hrz
        have hW0g : W0.heap[w.heap.size]? = some (.cells ROW 67 (0, 0)) := by rw [← hW0]; exact World.alloc_heap_new w.drew _
        have hB : Below w.heap.size w W0 := by
          rw [← hW0]
          exact (below_drew w).alloc (by show w.heap.size ≤ w.heap.size; omega) _
        have hcpA := fun ty dc => copy_rowN (P := Try.prog) W0 28 28 ty 67 w.heap.size (i * 4) (es.length + 1 - i) dc ⟨vb, 0, none⟩ 1 vc 4 ROW 67 (cv.toList.take 4) und28 hsz4 hW0g (by rw [hnl, show Nat.min 1 (es.length + 1 - i) = 1 from Nat.min_eq_left (by omega)])
          (fun j v hj => (World.cell?_of_block (by rw [add0]; exact hB.block vb hvbl)).trans (hnc j v hj)) (by rw [hnl]; omega) hn1
        have hgetA : ∀ k, (ROW.toList.take (i * 4) ++ cv.toList.take 4 ++ ROW.toList.drop (i * 4 + (cv.toList.take 4).length))[k]? = if k < i * 4 then ROW.toList[k]? else if k < i * 4 + (cv.toList.take 4).length then (cv.toList.take 4)[k - i * 4]? else ROW.toList[k]? :=
          fun k => splice_get _ _ _ _ (by simp only [Array.length_toList]; rw [hnl]; omega)
        generalize hRA : (ROW.toList.take (i * 4) ++ cv.toList.take 4 ++ ROW.toList.drop (i * 4 + (cv.toList.take 4).length)).toArray = RA at hcpA
        have hRAs : RA.size = G * 4 := by
          rw [← hRA]
          simp only [List.size_toArray, List.length_append, hnl, List.length_take, List.length_drop, Array.length_toList, hRs]; omega
        have hRAget : ∀ k, RA[k]? = if k < i * 4 then ROW[k]? else if k < i * 4 + 4 then (cv.toList.take 4)[k - i * 4]? else ROW[k]? := fun k => by
          rw [← hRA, List.getElem?_toArray, hgetA, hnl]; simp only [Array.getElem?_toList]
        generalize hW1 : W0.setRow w.heap.size RA = W1 at hcpA
        have hW1g : W1.heap[w.heap.size]? = some (.cells RA 67 (0, 0)) := by rw [← hW1]; exact setRow_heap W0 _ ROW _ 67 _ hW0g
        have hW1o : ∀ k, k ≠ w.heap.size → W1.heap[k]? = W0.heap[k]? := fun k hk => by rw [← hW1]; exact setRow_other W0 _ k _ hk
        have hcpB := fun ty dc sc => copy_rowN (P := Try.prog) W1.drew 28 28 ty 67 w.heap.size ((i + 1) * 4) (es.length - i) dc ⟨b0, i * 4, none⟩ (es.length - i) sc 4 RA 67 ((cur.toList.take (es.length * 4)).drop (i * 4)) und28 hsz4 hW1g (by rw [hdl, show Nat.min (es.length - i) (es.length - i) = es.length - i from Nat.min_self _])
          (fun j v hj => by
            have := hdc j v hj
            rw [add0]
            show W1.cell? _ = _
            refine (World.cell?_of_block (w := w) (h := ?_)).trans ?_
            · show W1.heap[b0]? = w.heap[b0]?
              rw [hW1o b0 (by omega), hB.block b0 hbl]
            · simp [World.cell?, q2, this]) (by rw [hdl, Nat.sub_mul]; omega) hd1
        refine (ins_grow b0 es.length c i vb vc w.heap.size G w W0 W1 _ _ _ hlt hnc' (by omega) (by omega) hge hrz hcpA hcpB).mono ?_
        rintro e W ⟨rfl, rfl⟩
        have hgetB : ∀ k, (RA.toList.take ((i + 1) * 4) ++ (cur.toList.take (es.length * 4)).drop (i * 4) ++ RA.toList.drop ((i + 1) * 4 + ((cur.toList.take (es.length * 4)).drop (i * 4)).length))[k]? = if k < (i + 1) * 4 then RA.toList[k]? else if k < (i + 1) * 4 + ((cur.toList.take (es.length * 4)).drop (i * 4)).length then ((cur.toList.take (es.length * 4)).drop (i * 4))[k - (i + 1) * 4]? else RA.toList[k]? :=
          fun k => splice_get _ _ _ _ (by rw [hdl, Nat.sub_mul]; simp only [Array.length_toList]; omega)
        refine fin (cur := cur) hel hne1 (setRow_heap W1.drew w.heap.size RA _ 67 _ hW1g) hge ?_ (.inl (Nat.le_refl _)) (fun q hq => ?_) (fun j hj => ?_) (fun q hq hq2 => ?_) (fun k hk hk2 => ((setRow_other W1.drew w.heap.size k _ hk2).trans (hW1o k hk2)).trans (hB.block k hk)) ?_ ?_ ?_ ?_
        · simp only [List.size_toArray, List.length_append, hdl, List.length_take, List.length_drop, Array.length_toList, hRAs, Nat.sub_mul]; omega
        · rw [List.getElem?_toArray, hgetB, Array.getElem?_toList, hRAget]
          simp only [hq, show q < (i + 1) * 4 by omega, if_true]
          exact hRget q hq
        · rw [List.getElem?_toArray, hgetB, Array.getElem?_toList, hRAget]
          simp only [show i * 4 + j < (i + 1) * 4 by omega, show ¬ i * 4 + j < i * 4 by omega, show i * 4 + j < i * 4 + 4 by omega, if_true, if_false, Nat.add_sub_cancel_left]
          rw [tk_get _ _ _ hj, Array.getElem?_toList]
        · rw [List.getElem?_toArray, hgetB, hdl, Nat.sub_mul]
          simp only [show ¬ q < (i + 1) * 4 by omega, show q < (i + 1) * 4 + (es.length * 4 - i * 4) by omega, if_true, if_false]
          rw [List.getElem?_drop, show i * 4 + (q - (i + 1) * 4) = q - 4 by omega, tk_get _ _ _ (by omega), Array.getElem?_toList]
        · show W1.os = w.os
          rw [← hW1]; exact hB.os
        · show W1.tape = w.tape
          rw [← hW1]; exact hB.tape
        · show W1.output = w.output
          rw [← hW1]; exact hB.output
        · show w.heap.size ≤ (W1.drew.setRow w.heap.size _).heap.size
          have := hB.size
          rw [← hW1]; simpa [World.setRow] using this
noncomputable def e27 (args : List AV) (rows : List Blk) : Option (Bool × AV × List Blk) := match args, rows with
  | [.sl a o n, .i .i64 i, .sl b o2 n2], [.row t es, .row t2 [m]] => cond (Nat.beq a 0 && (Nat.beq o 0 && (Nat.beq b 1 && (Nat.beq o2 0 && (Nat.beq n2 1 && (Nat.beq t 67 && Nat.beq t2 67))))))
      (some (Nat.beq n es.length && (decide ((0 : Int) ≤ i) && (Nat.ble i.toNat es.length && Nat.ble ((es.length + 1) * 32) 140737488355328)), .sl 2 0 (n + 1), [.dead, .row 67 [m], .row 67 (insL es i.toNat m)])) none
  | _, _ => none
theorem e27_ok (args : List AV) (rows : List Blk) (pre : Bool) (v : AV) (rows' : List Blk) (h : e27 args rows = some (pre, v, rows')) (hp : pre = true) : Con Try.prog 27 args rows v rows' := by
  unfold e27 at h
  split at h <;> first | (cases h; done) | skip
  obtain ⟨h1, h2⟩ := cond_some2 h
  clear h
  simp only [Bool.and_eq_true] at h1
  obtain ⟨q1, q2, q4, q5, q6, q7, q8⟩ := h1
  obtain rfl := Nat.eq_of_beq_eq_true q1
  obtain rfl := Nat.eq_of_beq_eq_true q2
  obtain rfl := Nat.eq_of_beq_eq_true q4
  obtain rfl := Nat.eq_of_beq_eq_true q5
  obtain rfl := Nat.eq_of_beq_eq_true q6
  obtain rfl := Nat.eq_of_beq_eq_true q7
  obtain rfl := Nat.eq_of_beq_eq_true q8
  cases h2
  simp only [Bool.and_eq_true, Nat.ble_eq, decide_eq_true_eq] at hp
  obtain ⟨q3, h0, h1, h2⟩ := hp
  obtain rfl := Nat.eq_of_beq_eq_true q3
  rename_i i _ _ _ _
  first
  | (obtain ⟨k, rfl⟩ := Int.eq_ofNat_of_zero_le h0; exact con27 _ _ _ h1 h2)
  | (rename_i i _; obtain ⟨k, rfl⟩ := Int.eq_ofNat_of_zero_le h0; exact con27 _ _ _ h1 h2)
end Go.Proofs.Ytoglnllbopcejaa

set_option maxRecDepth 100000
set_option linter.unusedVariables false
namespace Go.Proofs.Ytoglnllbopcejaa
open Go Go.Ev
noncomputable def SW7 : Ev.Spec := insS 27 e27 (insS 23 e23 (insS 15 e15 (SW6)))
theorem SW7_ok : SpecOK Try.prog SW7 := insS_ok e27_ok (insS_ok e23_ok (insS_ok e15_ok (SW6_ok)))
def ro9 (t : Nat) : Bool := cond (Nat.beq t 86) false (cond (Nat.beq t 1000030) false (cond (Nat.beq t 1000028) false (ro 9 t)))
end Go.Proofs.Ytoglnllbopcejaa

set_option maxRecDepth 100000
set_option linter.unusedVariables false
namespace Go.Proofs.Ytoglnllbopcejaa
open Go Go.Ev
theorem con23c (os hs : List (List AV)) (st tl th : Int) (ms : List (List AV)) (h1 : Nat.ble (os.length * 16) 140737488355328 = true) (h2 : Nat.ble (hs.length * 32) 140737488355328 = true) (h3 : Nat.ble (ms.length * 32) 140737488355328 = true) :
    Con Try.prog 23 [.agg [.rs 32 os, .rs 55 hs, .i .i64 st, .i .i64 tl, .i .i64 th, .rs 67 ms]] [] (.agg [.rs 32 os, .rs 55 hs, .i .i64 st, .i .i64 tl, .i .i64 th, .sl 0 0 ms.length]) [.row 67 ms] := by
  have hg : g23 os hs st tl th ms = true := by
    show (Tr.cn _ _ _).g = true
    rw [h1, h2, h3]; rfl
  have hv : (t23 os hs st tl th ms).val = (os, hs, st, tl, th, ms.length, ms) := by
    show (Tr.cn ((os.length * 16).ble 140737488355328) (.cn ((hs.length * 32).ble 140737488355328) (.cn ((ms.length * 32).ble 140737488355328 && true) (.lf (os, hs, st, tl, th, ms.length, ms)) (.nn)) (.nn)) (.nn)).val = _
    rw [h1, h2, h3]; rfl
  have := con23 os hs st tl th ms hg
  unfold w23_0 w23_1 w23_2 w23_3 w23_4 w23_5 w23_6 at this
  rw [hv] at this
  exact this
noncomputable def e23c (args : List AV) (rows : List Blk) : Option (Bool × AV × List Blk) := match args, rows with
  | [.agg [.rs a os, .rs b hs, .i .i64 st, .i .i64 tl, .i .i64 th, .rs c ms]], [] => cond (Nat.beq a 32 && (Nat.beq b 55 && Nat.beq c 67)) (some (Nat.ble (os.length * 16) 140737488355328 && (Nat.ble (hs.length * 32) 140737488355328 && Nat.ble (ms.length * 32) 140737488355328), .agg [.rs 32 os, .rs 55 hs, .i .i64 st, .i .i64 tl, .i .i64 th, .sl 0 0 ms.length], [.row 67 ms])) none
  | _, _ => none
theorem e23c_ok (args : List AV) (rows : List Blk) (pre : Bool) (v : AV) (rows' : List Blk) (h : e23c args rows = some (pre, v, rows')) (hp : pre = true) : Con Try.prog 23 args rows v rows' := by
  unfold e23c at h
  split at h <;> first | (cases h; done) | skip
  obtain ⟨h1, h2⟩ := cond_some2 h
  clear h
  simp only [Bool.and_eq_true] at h1
  obtain ⟨q1, q2, q3⟩ := h1
  obtain rfl := Nat.eq_of_beq_eq_true q1
  obtain rfl := Nat.eq_of_beq_eq_true q2
  obtain rfl := Nat.eq_of_beq_eq_true q3
  cases h2
  simp only [Bool.and_eq_true] at hp
  exact con23c _ _ _ _ _ _ hp.1 hp.2.1 hp.2.2
structure Lv where
  g15 : List (List AV) → List (List AV) → Int → Int → Int → List (List AV) → Bool
  w15 : List (List AV) → List (List AV) → Int → Int → Int → List (List AV) → Int
  g21 : List (List AV) → List (List AV) → Int → Int → Bool
  w21 : List (List AV) → List (List AV) → Int → Int → Bool
  g24 : List (List AV) → Int → Int → Bool
  w24 : List (List AV) → Int → Int → Int
  y24 : List (List AV) → Int → Int → Bool
  ins : List (List AV) → Int → List AV → List (List AV)
noncomputable def V0 : Lv := ⟨g15, w15_0, g21, w21_0, g24, w24_0, w24_1, fun es i m => insL es i.toNat m⟩
noncomputable def e15p (V : Lv) (args : List AV) (rows : List Blk) : Option (Bool × AV × List Blk) := match args, rows with
  | [.agg [.rs a os, .rs b hs, .i .i64 st, .i .i64 tl, .i .i64 th, .rs c ms]], [] => cond (Nat.beq a 32 && (Nat.beq b 55 && Nat.beq c 67)) (some (V.g15 os hs st tl th ms, .i .i64 (V.w15 os hs st tl th ms), [])) none
  | _, _ => none
theorem e15p_ok {V : Lv} (hV : V = V0) (args : List AV) (rows : List Blk) (pre : Bool) (v : AV) (rows' : List Blk) (h : e15p V args rows = some (pre, v, rows')) (hp : pre = true) : Con Try.prog 15 args rows v rows' := by
  subst hV
  unfold e15p at h
  split at h <;> first | (cases h; done) | skip
  obtain ⟨h1, h2⟩ := cond_some2 h
  clear h
  simp only [Bool.and_eq_true] at h1
  obtain ⟨q1, q2, q3⟩ := h1
  obtain rfl := Nat.eq_of_beq_eq_true q1
  obtain rfl := Nat.eq_of_beq_eq_true q2
  obtain rfl := Nat.eq_of_beq_eq_true q3
  cases h2
  exact con15 _ _ _ _ _ _ hp
noncomputable def e21p (V : Lv) (args : List AV) (rows : List Blk) : Option (Bool × AV × List Blk) := match args, rows with
  | [.agg [.rs a os, .rs b hs], .agg [.i .i64 u, .i .i64 v]], [] => cond (Nat.beq a 32 && Nat.beq b 55) (some (V.g21 os hs u v, .b (V.w21 os hs u v), [])) none
  | _, _ => none
theorem e21p_ok {V : Lv} (hV : V = V0) (args : List AV) (rows : List Blk) (pre : Bool) (v : AV) (rows' : List Blk) (h : e21p V args rows = some (pre, v, rows')) (hp : pre = true) : Con Try.prog 21 args rows v rows' := by
  subst hV
  unfold e21p at h
  split at h <;> first | (cases h; done) | skip
  obtain ⟨h1, h2⟩ := cond_some2 h
  clear h
  simp only [Bool.and_eq_true] at h1
  obtain ⟨q1, q2⟩ := h1
  obtain rfl := Nat.eq_of_beq_eq_true q1
  obtain rfl := Nat.eq_of_beq_eq_true q2
  cases h2
  exact con21 _ _ _ _ hp
noncomputable def e24p (V : Lv) (args : List AV) (rows : List Blk) : Option (Bool × AV × List Blk) := match args, rows with
  | [.rs a ms, .agg [.i .i64 u, .i .i64 v], .fn b []], [] => cond (Nat.beq a 67 && Nat.beq b 25) (some (V.g24 ms u v, .tup [.i .i64 (V.w24 ms u v), .b (V.y24 ms u v)], [])) none
  | _, _ => none
theorem e24p_ok {V : Lv} (hV : V = V0) (args : List AV) (rows : List Blk) (pre : Bool) (v : AV) (rows' : List Blk) (h : e24p V args rows = some (pre, v, rows')) (hp : pre = true) : Con Try.prog 24 args rows v rows' := by
  subst hV
  unfold e24p at h
  split at h <;> first | (cases h; done) | skip
  obtain ⟨h1, h2⟩ := cond_some2 h
  clear h
  simp only [Bool.and_eq_true] at h1
  obtain ⟨q1, q2⟩ := h1
  obtain rfl := Nat.eq_of_beq_eq_true q1
  obtain rfl := Nat.eq_of_beq_eq_true q2
  cases h2
  exact con24 _ _ _ hp
noncomputable def e27p (V : Lv) (args : List AV) (rows : List Blk) : Option (Bool × AV × List Blk) := match args, rows with
  | [.sl a o n, .i .i64 i, .sl b o2 n2], [.row t es, .row t2 [m]] => cond (Nat.beq a 0 && (Nat.beq o 0 && (Nat.beq b 1 && (Nat.beq o2 0 && (Nat.beq n2 1 && (Nat.beq t 67 && Nat.beq t2 67))))))
      (some (Nat.beq n es.length && (decide ((0 : Int) ≤ i) && (Nat.ble i.toNat es.length && Nat.ble ((es.length + 1) * 32) 140737488355328)), .sl 2 0 (n + 1), [.dead, .row 67 [m], .row 67 (V.ins es i m)])) none
  | _, _ => none
theorem e27p_ok {V : Lv} (hV : V = V0) (args : List AV) (rows : List Blk) (pre : Bool) (v : AV) (rows' : List Blk) (h : e27p V args rows = some (pre, v, rows')) (hp : pre = true) : Con Try.prog 27 args rows v rows' := by
  subst hV
  exact e27_ok args rows pre v rows' h hp
noncomputable def SP (V : Lv) : Ev.Spec := insS 27 (e27p V) (insS 24 (e24p V) (insS 23 e23c (insS 22 e22 (insS 21 (e21p V) (insS 15 (e15p V) S0)))))
theorem SP_ok {V : Lv} (hV : V = V0) : SpecOK Try.prog (SP V) := insS_ok (e27p_ok hV) (insS_ok (e24p_ok hV) (insS_ok e23c_ok (insS_ok e22_ok (insS_ok (e21p_ok hV) (insS_ok (e15p_ok hV) S0_ok)))))
end Go.Proofs.Ytoglnllbopcejaa

set_option maxRecDepth 100000
set_option maxHeartbeats 0
set_option linter.unusedVariables false
namespace Go.Proofs.Ytoglnllbopcejaa
open Go Go.Ev

noncomputable def c9 : Code := match Try.f9.body with | some c => c | _ => .skip
theorem lok9 (V : Lv) : LOK Try.prog (SP V) ro9 (fun _ _ => none) 0 false c9 [] :=
  lok_lo (fun _ _ _ _ _ _ _ h _ => by cases h) c9 [] false (locate_nil _) (by kernel_rfl)
noncomputable def t9 (V : Lv) (os hs : List (List AV)) (st tl th : Int) (ms : List (List AV)) (u v rd wr : Int) : Tr ((List (List AV)) × (List (List AV)) × (Int) × (Int) × (Int) × (List (List AV)) × (Int)) :=
  .cn (V.g15 os hs st tl th ms) (.cn (V.w15 os hs st tl th ms != 0) (.lf ([], [], 0, 0, 0, [], V.w15 os hs st tl th ms)) (.cn (V.g21 os hs u v) (.cn (!V.w21 os hs u v) (.lf ([], [], 0, 0, 0, [], 7)) (.cn (g22 rd 0 2000) (.cn (!w22_0 rd 0 2000) (.lf ([], [], 0, 0, 0, [], 1)) (.cn (g22 wr 0 2000) (.cn (!w22_0 wr 0 2000) (.lf ([], [], 0, 0, 0, [], 1)) (.cn ((os.length * 16).ble 140737488355328 && ((hs.length * 32).ble 140737488355328 && (ms.length * 32).ble 140737488355328) && true) (.cn ((0 + ms.length).ble ms.length) (.cn (V.g24 (bif ms.length.beq ms.length then ms else List.take ms.length (List.drop 0 ms)) u v) (.cn (V.y24 (bif ms.length.beq ms.length then ms else List.take ms.length (List.drop 0 ms)) u v) (.cn (inb (V.w24 (bif ms.length.beq ms.length then ms else List.take ms.length (List.drop 0 ms)) u v) ms.length && (0 + (V.w24 (bif ms.length.beq ms.length then ms else List.take ms.length (List.drop 0 ms)) u v).toNat).blt ms.length) (.cn ((0 + (V.w24 (bif ms.length.beq ms.length then ms else List.take ms.length (List.drop 0 ms)) u v).toNat).blt ms.length) (.cn ((0 + (V.w24 (bif ms.length.beq ms.length then ms else List.take ms.length (List.drop 0 ms)) u v).toNat).blt ms.length) (.cn ((0 + (V.w24 (bif ms.length.beq ms.length then ms else List.take ms.length (List.drop 0 ms)) u v).toNat).blt ms.length) (.cn (decide ((↑ms.length : Int) > 40)) (.lf ([], [], 0, 0, 0, [], 3)) (.cn ((0 + ms.length).ble (ms.set (0 + (V.w24 (bif ms.length.beq ms.length then ms else List.take ms.length (List.drop 0 ms)) u v).toNat) (setCs (ms.getD (0 + (V.w24 (bif ms.length.beq ms.length then ms else List.take ms.length (List.drop 0 ms)) u v).toNat) []) 2 [AV.i IntKind.i64 (bmax (fI (ms.getD (0 + (V.w24 (bif ms.length.beq ms.length then ms else List.take ms.length (List.drop 0 ms)) u v).toNat) []) 2) (bmax (IntKind.i64.wrap (rd - wr)) 0)), AV.i IntKind.i64 (bmin (fI (ms.getD (0 + (V.w24 (bif ms.length.beq ms.length then ms else List.take ms.length (List.drop 0 ms)) u v).toNat) []) 3) (bmin (IntKind.i64.wrap (rd + wr)) 2000))])).length) (.cn (V.g15 os hs st tl th (bif ms.length.beq (ms.set (0 + (V.w24 (bif ms.length.beq ms.length then ms else List.take ms.length (List.drop 0 ms)) u v).toNat) (setCs (ms.getD (0 + (V.w24 (bif ms.length.beq ms.length then ms else List.take ms.length (List.drop 0 ms)) u v).toNat) []) 2 [AV.i IntKind.i64 (bmax (fI (ms.getD (0 + (V.w24 (bif ms.length.beq ms.length then ms else List.take ms.length (List.drop 0 ms)) u v).toNat) []) 2) (bmax (IntKind.i64.wrap (rd - wr)) 0)), AV.i IntKind.i64 (bmin (fI (ms.getD (0 + (V.w24 (bif ms.length.beq ms.length then ms else List.take ms.length (List.drop 0 ms)) u v).toNat) []) 3) (bmin (IntKind.i64.wrap (rd + wr)) 2000))])).length then ms.set (0 + (V.w24 (bif ms.length.beq ms.length then ms else List.take ms.length (List.drop 0 ms)) u v).toNat) (setCs (ms.getD (0 + (V.w24 (bif ms.length.beq ms.length then ms else List.take ms.length (List.drop 0 ms)) u v).toNat) []) 2 [AV.i IntKind.i64 (bmax (fI (ms.getD (0 + (V.w24 (bif ms.length.beq ms.length then ms else List.take ms.length (List.drop 0 ms)) u v).toNat) []) 2) (bmax (IntKind.i64.wrap (rd - wr)) 0)), AV.i IntKind.i64 (bmin (fI (ms.getD (0 + (V.w24 (bif ms.length.beq ms.length then ms else List.take ms.length (List.drop 0 ms)) u v).toNat) []) 3) (bmin (IntKind.i64.wrap (rd + wr)) 2000))]) else List.take ms.length (List.drop 0 (ms.set (0 + (V.w24 (bif ms.length.beq ms.length then ms else List.take ms.length (List.drop 0 ms)) u v).toNat) (setCs (ms.getD (0 + (V.w24 (bif ms.length.beq ms.length then ms else List.take ms.length (List.drop 0 ms)) u v).toNat) []) 2 [AV.i IntKind.i64 (bmax (fI (ms.getD (0 + (V.w24 (bif ms.length.beq ms.length then ms else List.take ms.length (List.drop 0 ms)) u v).toNat) []) 2) (bmax (IntKind.i64.wrap (rd - wr)) 0)), AV.i IntKind.i64 (bmin (fI (ms.getD (0 + (V.w24 (bif ms.length.beq ms.length then ms else List.take ms.length (List.drop 0 ms)) u v).toNat) []) 3) (bmin (IntKind.i64.wrap (rd + wr)) 2000))]))))) (.cn (V.w15 os hs st tl th (bif ms.length.beq (ms.set (0 + (V.w24 (bif ms.length.beq ms.length then ms else List.take ms.length (List.drop 0 ms)) u v).toNat) (setCs (ms.getD (0 + (V.w24 (bif ms.length.beq ms.length then ms else List.take ms.length (List.drop 0 ms)) u v).toNat) []) 2 [AV.i IntKind.i64 (bmax (fI (ms.getD (0 + (V.w24 (bif ms.length.beq ms.length then ms else List.take ms.length (List.drop 0 ms)) u v).toNat) []) 2) (bmax (IntKind.i64.wrap (rd - wr)) 0)), AV.i IntKind.i64 (bmin (fI (ms.getD (0 + (V.w24 (bif ms.length.beq ms.length then ms else List.take ms.length (List.drop 0 ms)) u v).toNat) []) 3) (bmin (IntKind.i64.wrap (rd + wr)) 2000))])).length then ms.set (0 + (V.w24 (bif ms.length.beq ms.length then ms else List.take ms.length (List.drop 0 ms)) u v).toNat) (setCs (ms.getD (0 + (V.w24 (bif ms.length.beq ms.length then ms else List.take ms.length (List.drop 0 ms)) u v).toNat) []) 2 [AV.i IntKind.i64 (bmax (fI (ms.getD (0 + (V.w24 (bif ms.length.beq ms.length then ms else List.take ms.length (List.drop 0 ms)) u v).toNat) []) 2) (bmax (IntKind.i64.wrap (rd - wr)) 0)), AV.i IntKind.i64 (bmin (fI (ms.getD (0 + (V.w24 (bif ms.length.beq ms.length then ms else List.take ms.length (List.drop 0 ms)) u v).toNat) []) 3) (bmin (IntKind.i64.wrap (rd + wr)) 2000))]) else List.take ms.length (List.drop 0 (ms.set (0 + (V.w24 (bif ms.length.beq ms.length then ms else List.take ms.length (List.drop 0 ms)) u v).toNat) (setCs (ms.getD (0 + (V.w24 (bif ms.length.beq ms.length then ms else List.take ms.length (List.drop 0 ms)) u v).toNat) []) 2 [AV.i IntKind.i64 (bmax (fI (ms.getD (0 + (V.w24 (bif ms.length.beq ms.length then ms else List.take ms.length (List.drop 0 ms)) u v).toNat) []) 2) (bmax (IntKind.i64.wrap (rd - wr)) 0)), AV.i IntKind.i64 (bmin (fI (ms.getD (0 + (V.w24 (bif ms.length.beq ms.length then ms else List.take ms.length (List.drop 0 ms)) u v).toNat) []) 3) (bmin (IntKind.i64.wrap (rd + wr)) 2000))])))) != 0) (.lf ([], [], 0, 0, 0, [], 10)) (.cn ((0 + ms.length).ble (ms.set (0 + (V.w24 (bif ms.length.beq ms.length then ms else List.take ms.length (List.drop 0 ms)) u v).toNat) (setCs (ms.getD (0 + (V.w24 (bif ms.length.beq ms.length then ms else List.take ms.length (List.drop 0 ms)) u v).toNat) []) 2 [AV.i IntKind.i64 (bmax (fI (ms.getD (0 + (V.w24 (bif ms.length.beq ms.length then ms else List.take ms.length (List.drop 0 ms)) u v).toNat) []) 2) (bmax (IntKind.i64.wrap (rd - wr)) 0)), AV.i IntKind.i64 (bmin (fI (ms.getD (0 + (V.w24 (bif ms.length.beq ms.length then ms else List.take ms.length (List.drop 0 ms)) u v).toNat) []) 3) (bmin (IntKind.i64.wrap (rd + wr)) 2000))])).length) (.lf (os, hs, st, tl, th, bif ms.length.beq (ms.set (0 + (V.w24 (bif ms.length.beq ms.length then ms else List.take ms.length (List.drop 0 ms)) u v).toNat) (setCs (ms.getD (0 + (V.w24 (bif ms.length.beq ms.length then ms else List.take ms.length (List.drop 0 ms)) u v).toNat) []) 2 [AV.i IntKind.i64 (bmax (fI (ms.getD (0 + (V.w24 (bif ms.length.beq ms.length then ms else List.take ms.length (List.drop 0 ms)) u v).toNat) []) 2) (bmax (IntKind.i64.wrap (rd - wr)) 0)), AV.i IntKind.i64 (bmin (fI (ms.getD (0 + (V.w24 (bif ms.length.beq ms.length then ms else List.take ms.length (List.drop 0 ms)) u v).toNat) []) 3) (bmin (IntKind.i64.wrap (rd + wr)) 2000))])).length then ms.set (0 + (V.w24 (bif ms.length.beq ms.length then ms else List.take ms.length (List.drop 0 ms)) u v).toNat) (setCs (ms.getD (0 + (V.w24 (bif ms.length.beq ms.length then ms else List.take ms.length (List.drop 0 ms)) u v).toNat) []) 2 [AV.i IntKind.i64 (bmax (fI (ms.getD (0 + (V.w24 (bif ms.length.beq ms.length then ms else List.take ms.length (List.drop 0 ms)) u v).toNat) []) 2) (bmax (IntKind.i64.wrap (rd - wr)) 0)), AV.i IntKind.i64 (bmin (fI (ms.getD (0 + (V.w24 (bif ms.length.beq ms.length then ms else List.take ms.length (List.drop 0 ms)) u v).toNat) []) 3) (bmin (IntKind.i64.wrap (rd + wr)) 2000))]) else List.take ms.length (List.drop 0 (ms.set (0 + (V.w24 (bif ms.length.beq ms.length then ms else List.take ms.length (List.drop 0 ms)) u v).toNat) (setCs (ms.getD (0 + (V.w24 (bif ms.length.beq ms.length then ms else List.take ms.length (List.drop 0 ms)) u v).toNat) []) 2 [AV.i IntKind.i64 (bmax (fI (ms.getD (0 + (V.w24 (bif ms.length.beq ms.length then ms else List.take ms.length (List.drop 0 ms)) u v).toNat) []) 2) (bmax (IntKind.i64.wrap (rd - wr)) 0)), AV.i IntKind.i64 (bmin (fI (ms.getD (0 + (V.w24 (bif ms.length.beq ms.length then ms else List.take ms.length (List.drop 0 ms)) u v).toNat) []) 3) (bmin (IntKind.i64.wrap (rd + wr)) 2000))]))), 0)) (.nn))) (.nn)) (.nn))) (.nn)) (.nn)) (.nn)) (.nn)) (.cn (ms.length.beq ms.length && (decide (0 ≤ V.w24 (bif ms.length.beq ms.length then ms else List.take ms.length (List.drop 0 ms)) u v) && ((V.w24 (bif ms.length.beq ms.length then ms else List.take ms.length (List.drop 0 ms)) u v).toNat.ble ms.length && ((ms.length + 1) * 32).ble 140737488355328)) && true) (.cn (decide ((↑(ms.length + 1) : Int) > 40)) (.lf ([], [], 0, 0, 0, [], 3)) (.cn ((0 + (ms.length + 1)).ble (V.ins ms (V.w24 (bif ms.length.beq ms.length then ms else List.take ms.length (List.drop 0 ms)) u v) [AV.i IntKind.i64 u, AV.i IntKind.i64 v, AV.i IntKind.i64 (bmax (IntKind.i64.wrap (rd - wr)) 0), AV.i IntKind.i64 (bmin (IntKind.i64.wrap (rd + wr)) 2000)]).length) (.cn (V.g15 os hs st tl th (bif (ms.length + 1).beq (V.ins ms (V.w24 (bif ms.length.beq ms.length then ms else List.take ms.length (List.drop 0 ms)) u v) [AV.i IntKind.i64 u, AV.i IntKind.i64 v, AV.i IntKind.i64 (bmax (IntKind.i64.wrap (rd - wr)) 0), AV.i IntKind.i64 (bmin (IntKind.i64.wrap (rd + wr)) 2000)]).length then V.ins ms (V.w24 (bif ms.length.beq ms.length then ms else List.take ms.length (List.drop 0 ms)) u v) [AV.i IntKind.i64 u, AV.i IntKind.i64 v, AV.i IntKind.i64 (bmax (IntKind.i64.wrap (rd - wr)) 0), AV.i IntKind.i64 (bmin (IntKind.i64.wrap (rd + wr)) 2000)] else List.take (ms.length + 1) (List.drop 0 (V.ins ms (V.w24 (bif ms.length.beq ms.length then ms else List.take ms.length (List.drop 0 ms)) u v) [AV.i IntKind.i64 u, AV.i IntKind.i64 v, AV.i IntKind.i64 (bmax (IntKind.i64.wrap (rd - wr)) 0), AV.i IntKind.i64 (bmin (IntKind.i64.wrap (rd + wr)) 2000)])))) (.cn (V.w15 os hs st tl th (bif (ms.length + 1).beq (V.ins ms (V.w24 (bif ms.length.beq ms.length then ms else List.take ms.length (List.drop 0 ms)) u v) [AV.i IntKind.i64 u, AV.i IntKind.i64 v, AV.i IntKind.i64 (bmax (IntKind.i64.wrap (rd - wr)) 0), AV.i IntKind.i64 (bmin (IntKind.i64.wrap (rd + wr)) 2000)]).length then V.ins ms (V.w24 (bif ms.length.beq ms.length then ms else List.take ms.length (List.drop 0 ms)) u v) [AV.i IntKind.i64 u, AV.i IntKind.i64 v, AV.i IntKind.i64 (bmax (IntKind.i64.wrap (rd - wr)) 0), AV.i IntKind.i64 (bmin (IntKind.i64.wrap (rd + wr)) 2000)] else List.take (ms.length + 1) (List.drop 0 (V.ins ms (V.w24 (bif ms.length.beq ms.length then ms else List.take ms.length (List.drop 0 ms)) u v) [AV.i IntKind.i64 u, AV.i IntKind.i64 v, AV.i IntKind.i64 (bmax (IntKind.i64.wrap (rd - wr)) 0), AV.i IntKind.i64 (bmin (IntKind.i64.wrap (rd + wr)) 2000)]))) != 0) (.lf ([], [], 0, 0, 0, [], 10)) (.cn ((0 + (ms.length + 1)).ble (V.ins ms (V.w24 (bif ms.length.beq ms.length then ms else List.take ms.length (List.drop 0 ms)) u v) [AV.i IntKind.i64 u, AV.i IntKind.i64 v, AV.i IntKind.i64 (bmax (IntKind.i64.wrap (rd - wr)) 0), AV.i IntKind.i64 (bmin (IntKind.i64.wrap (rd + wr)) 2000)]).length) (.lf (os, hs, st, tl, th, bif (ms.length + 1).beq (V.ins ms (V.w24 (bif ms.length.beq ms.length then ms else List.take ms.length (List.drop 0 ms)) u v) [AV.i IntKind.i64 u, AV.i IntKind.i64 v, AV.i IntKind.i64 (bmax (IntKind.i64.wrap (rd - wr)) 0), AV.i IntKind.i64 (bmin (IntKind.i64.wrap (rd + wr)) 2000)]).length then V.ins ms (V.w24 (bif ms.length.beq ms.length then ms else List.take ms.length (List.drop 0 ms)) u v) [AV.i IntKind.i64 u, AV.i IntKind.i64 v, AV.i IntKind.i64 (bmax (IntKind.i64.wrap (rd - wr)) 0), AV.i IntKind.i64 (bmin (IntKind.i64.wrap (rd + wr)) 2000)] else List.take (ms.length + 1) (List.drop 0 (V.ins ms (V.w24 (bif ms.length.beq ms.length then ms else List.take ms.length (List.drop 0 ms)) u v) [AV.i IntKind.i64 u, AV.i IntKind.i64 v, AV.i IntKind.i64 (bmax (IntKind.i64.wrap (rd - wr)) 0), AV.i IntKind.i64 (bmin (IntKind.i64.wrap (rd + wr)) 2000)])), 0)) (.nn))) (.nn)) (.nn))) (.nn))) (.nn)) (.nn)) (.nn))) (.nn))) (.nn))) (.nn))) (.nn)
noncomputable def g9 (V : Lv) (os hs : List (List AV)) (st tl th : Int) (ms : List (List AV)) (u v rd wr : Int) : Bool := (t9 V os hs st tl th ms u v rd wr).g
noncomputable def w9_0 (V : Lv) (os hs : List (List AV)) (st tl th : Int) (ms : List (List AV)) (u v rd wr : Int) : List (List AV) := (t9 V os hs st tl th ms u v rd wr).val.1
noncomputable def w9_1 (V : Lv) (os hs : List (List AV)) (st tl th : Int) (ms : List (List AV)) (u v rd wr : Int) : List (List AV) := (t9 V os hs st tl th ms u v rd wr).val.2.1
noncomputable def w9_2 (V : Lv) (os hs : List (List AV)) (st tl th : Int) (ms : List (List AV)) (u v rd wr : Int) : Int := (t9 V os hs st tl th ms u v rd wr).val.2.2.1
noncomputable def w9_3 (V : Lv) (os hs : List (List AV)) (st tl th : Int) (ms : List (List AV)) (u v rd wr : Int) : Int := (t9 V os hs st tl th ms u v rd wr).val.2.2.2.1
noncomputable def w9_4 (V : Lv) (os hs : List (List AV)) (st tl th : Int) (ms : List (List AV)) (u v rd wr : Int) : Int := (t9 V os hs st tl th ms u v rd wr).val.2.2.2.2.1
noncomputable def w9_5 (V : Lv) (os hs : List (List AV)) (st tl th : Int) (ms : List (List AV)) (u v rd wr : Int) : List (List AV) := (t9 V os hs st tl th ms u v rd wr).val.2.2.2.2.2.1
noncomputable def w9_6 (V : Lv) (os hs : List (List AV)) (st tl th : Int) (ms : List (List AV)) (u v rd wr : Int) : Int := (t9 V os hs st tl th ms u v rd wr).val.2.2.2.2.2.2
noncomputable def a9 (V : Lv) (os hs : List (List AV)) (st tl th : Int) (ms : List (List AV)) (u v rd wr : Int) : Tr AV :=
  .cn (V.g15 os hs st tl th ms) (.cn (V.w15 os hs st tl th ms != 0) (.lf (.tup [.agg [.nl, .nl, .i .i64 0, .i .i64 0, .i .i64 0, .nl], .i .i64 (V.w15 os hs st tl th ms)])) (.cn (V.g21 os hs u v) (.cn (!V.w21 os hs u v) (.lf (.tup [.agg [.nl, .nl, .i .i64 0, .i .i64 0, .i .i64 0, .nl], .i .i64 7])) (.cn (g22 rd 0 2000) (.cn (!w22_0 rd 0 2000) (.lf (.tup [.agg [.nl, .nl, .i .i64 0, .i .i64 0, .i .i64 0, .nl], .i .i64 1])) (.cn (g22 wr 0 2000) (.cn (!w22_0 wr 0 2000) (.lf (.tup [.agg [.nl, .nl, .i .i64 0, .i .i64 0, .i .i64 0, .nl], .i .i64 1])) (.cn ((os.length * 16).ble 140737488355328 && ((hs.length * 32).ble 140737488355328 && (ms.length * 32).ble 140737488355328) && true) (.cn ((0 + ms.length).ble ms.length) (.cn (V.g24 (bif ms.length.beq ms.length then ms else List.take ms.length (List.drop 0 ms)) u v) (.cn (V.y24 (bif ms.length.beq ms.length then ms else List.take ms.length (List.drop 0 ms)) u v) (.cn (inb (V.w24 (bif ms.length.beq ms.length then ms else List.take ms.length (List.drop 0 ms)) u v) ms.length && (0 + (V.w24 (bif ms.length.beq ms.length then ms else List.take ms.length (List.drop 0 ms)) u v).toNat).blt ms.length) (.cn ((0 + (V.w24 (bif ms.length.beq ms.length then ms else List.take ms.length (List.drop 0 ms)) u v).toNat).blt ms.length) (.cn ((0 + (V.w24 (bif ms.length.beq ms.length then ms else List.take ms.length (List.drop 0 ms)) u v).toNat).blt ms.length) (.cn ((0 + (V.w24 (bif ms.length.beq ms.length then ms else List.take ms.length (List.drop 0 ms)) u v).toNat).blt ms.length) (.cn (decide ((↑ms.length : Int) > 40)) (.lf (.tup [.agg [.nl, .nl, .i .i64 0, .i .i64 0, .i .i64 0, .nl], .i .i64 3])) (.cn ((0 + ms.length).ble (ms.set (0 + (V.w24 (bif ms.length.beq ms.length then ms else List.take ms.length (List.drop 0 ms)) u v).toNat) (setCs (ms.getD (0 + (V.w24 (bif ms.length.beq ms.length then ms else List.take ms.length (List.drop 0 ms)) u v).toNat) []) 2 [AV.i IntKind.i64 (bmax (fI (ms.getD (0 + (V.w24 (bif ms.length.beq ms.length then ms else List.take ms.length (List.drop 0 ms)) u v).toNat) []) 2) (bmax (IntKind.i64.wrap (rd - wr)) 0)), AV.i IntKind.i64 (bmin (fI (ms.getD (0 + (V.w24 (bif ms.length.beq ms.length then ms else List.take ms.length (List.drop 0 ms)) u v).toNat) []) 3) (bmin (IntKind.i64.wrap (rd + wr)) 2000))])).length) (.cn (V.g15 os hs st tl th (bif ms.length.beq (ms.set (0 + (V.w24 (bif ms.length.beq ms.length then ms else List.take ms.length (List.drop 0 ms)) u v).toNat) (setCs (ms.getD (0 + (V.w24 (bif ms.length.beq ms.length then ms else List.take ms.length (List.drop 0 ms)) u v).toNat) []) 2 [AV.i IntKind.i64 (bmax (fI (ms.getD (0 + (V.w24 (bif ms.length.beq ms.length then ms else List.take ms.length (List.drop 0 ms)) u v).toNat) []) 2) (bmax (IntKind.i64.wrap (rd - wr)) 0)), AV.i IntKind.i64 (bmin (fI (ms.getD (0 + (V.w24 (bif ms.length.beq ms.length then ms else List.take ms.length (List.drop 0 ms)) u v).toNat) []) 3) (bmin (IntKind.i64.wrap (rd + wr)) 2000))])).length then ms.set (0 + (V.w24 (bif ms.length.beq ms.length then ms else List.take ms.length (List.drop 0 ms)) u v).toNat) (setCs (ms.getD (0 + (V.w24 (bif ms.length.beq ms.length then ms else List.take ms.length (List.drop 0 ms)) u v).toNat) []) 2 [AV.i IntKind.i64 (bmax (fI (ms.getD (0 + (V.w24 (bif ms.length.beq ms.length then ms else List.take ms.length (List.drop 0 ms)) u v).toNat) []) 2) (bmax (IntKind.i64.wrap (rd - wr)) 0)), AV.i IntKind.i64 (bmin (fI (ms.getD (0 + (V.w24 (bif ms.length.beq ms.length then ms else List.take ms.length (List.drop 0 ms)) u v).toNat) []) 3) (bmin (IntKind.i64.wrap (rd + wr)) 2000))]) else List.take ms.length (List.drop 0 (ms.set (0 + (V.w24 (bif ms.length.beq ms.length then ms else List.take ms.length (List.drop 0 ms)) u v).toNat) (setCs (ms.getD (0 + (V.w24 (bif ms.length.beq ms.length then ms else List.take ms.length (List.drop 0 ms)) u v).toNat) []) 2 [AV.i IntKind.i64 (bmax (fI (ms.getD (0 + (V.w24 (bif ms.length.beq ms.length then ms else List.take ms.length (List.drop 0 ms)) u v).toNat) []) 2) (bmax (IntKind.i64.wrap (rd - wr)) 0)), AV.i IntKind.i64 (bmin (fI (ms.getD (0 + (V.w24 (bif ms.length.beq ms.length then ms else List.take ms.length (List.drop 0 ms)) u v).toNat) []) 3) (bmin (IntKind.i64.wrap (rd + wr)) 2000))]))))) (.cn (V.w15 os hs st tl th (bif ms.length.beq (ms.set (0 + (V.w24 (bif ms.length.beq ms.length then ms else List.take ms.length (List.drop 0 ms)) u v).toNat) (setCs (ms.getD (0 + (V.w24 (bif ms.length.beq ms.length then ms else List.take ms.length (List.drop 0 ms)) u v).toNat) []) 2 [AV.i IntKind.i64 (bmax (fI (ms.getD (0 + (V.w24 (bif ms.length.beq ms.length then ms else List.take ms.length (List.drop 0 ms)) u v).toNat) []) 2) (bmax (IntKind.i64.wrap (rd - wr)) 0)), AV.i IntKind.i64 (bmin (fI (ms.getD (0 + (V.w24 (bif ms.length.beq ms.length then ms else List.take ms.length (List.drop 0 ms)) u v).toNat) []) 3) (bmin (IntKind.i64.wrap (rd + wr)) 2000))])).length then ms.set (0 + (V.w24 (bif ms.length.beq ms.length then ms else List.take ms.length (List.drop 0 ms)) u v).toNat) (setCs (ms.getD (0 + (V.w24 (bif ms.length.beq ms.length then ms else List.take ms.length (List.drop 0 ms)) u v).toNat) []) 2 [AV.i IntKind.i64 (bmax (fI (ms.getD (0 + (V.w24 (bif ms.length.beq ms.length then ms else List.take ms.length (List.drop 0 ms)) u v).toNat) []) 2) (bmax (IntKind.i64.wrap (rd - wr)) 0)), AV.i IntKind.i64 (bmin (fI (ms.getD (0 + (V.w24 (bif ms.length.beq ms.length then ms else List.take ms.length (List.drop 0 ms)) u v).toNat) []) 3) (bmin (IntKind.i64.wrap (rd + wr)) 2000))]) else List.take ms.length (List.drop 0 (ms.set (0 + (V.w24 (bif ms.length.beq ms.length then ms else List.take ms.length (List.drop 0 ms)) u v).toNat) (setCs (ms.getD (0 + (V.w24 (bif ms.length.beq ms.length then ms else List.take ms.length (List.drop 0 ms)) u v).toNat) []) 2 [AV.i IntKind.i64 (bmax (fI (ms.getD (0 + (V.w24 (bif ms.length.beq ms.length then ms else List.take ms.length (List.drop 0 ms)) u v).toNat) []) 2) (bmax (IntKind.i64.wrap (rd - wr)) 0)), AV.i IntKind.i64 (bmin (fI (ms.getD (0 + (V.w24 (bif ms.length.beq ms.length then ms else List.take ms.length (List.drop 0 ms)) u v).toNat) []) 3) (bmin (IntKind.i64.wrap (rd + wr)) 2000))])))) != 0) (.lf (.tup [.agg [.nl, .nl, .i .i64 0, .i .i64 0, .i .i64 0, .nl], .i .i64 10])) (.cn ((0 + ms.length).ble (ms.set (0 + (V.w24 (bif ms.length.beq ms.length then ms else List.take ms.length (List.drop 0 ms)) u v).toNat) (setCs (ms.getD (0 + (V.w24 (bif ms.length.beq ms.length then ms else List.take ms.length (List.drop 0 ms)) u v).toNat) []) 2 [AV.i IntKind.i64 (bmax (fI (ms.getD (0 + (V.w24 (bif ms.length.beq ms.length then ms else List.take ms.length (List.drop 0 ms)) u v).toNat) []) 2) (bmax (IntKind.i64.wrap (rd - wr)) 0)), AV.i IntKind.i64 (bmin (fI (ms.getD (0 + (V.w24 (bif ms.length.beq ms.length then ms else List.take ms.length (List.drop 0 ms)) u v).toNat) []) 3) (bmin (IntKind.i64.wrap (rd + wr)) 2000))])).length) (.lf (.tup [.agg [.rs 32 os, .rs 55 hs, .i .i64 st, .i .i64 tl, .i .i64 th, .rs 67 (bif ms.length.beq (ms.set (0 + (V.w24 (bif ms.length.beq ms.length then ms else List.take ms.length (List.drop 0 ms)) u v).toNat) (setCs (ms.getD (0 + (V.w24 (bif ms.length.beq ms.length then ms else List.take ms.length (List.drop 0 ms)) u v).toNat) []) 2 [AV.i IntKind.i64 (bmax (fI (ms.getD (0 + (V.w24 (bif ms.length.beq ms.length then ms else List.take ms.length (List.drop 0 ms)) u v).toNat) []) 2) (bmax (IntKind.i64.wrap (rd - wr)) 0)), AV.i IntKind.i64 (bmin (fI (ms.getD (0 + (V.w24 (bif ms.length.beq ms.length then ms else List.take ms.length (List.drop 0 ms)) u v).toNat) []) 3) (bmin (IntKind.i64.wrap (rd + wr)) 2000))])).length then ms.set (0 + (V.w24 (bif ms.length.beq ms.length then ms else List.take ms.length (List.drop 0 ms)) u v).toNat) (setCs (ms.getD (0 + (V.w24 (bif ms.length.beq ms.length then ms else List.take ms.length (List.drop 0 ms)) u v).toNat) []) 2 [AV.i IntKind.i64 (bmax (fI (ms.getD (0 + (V.w24 (bif ms.length.beq ms.length then ms else List.take ms.length (List.drop 0 ms)) u v).toNat) []) 2) (bmax (IntKind.i64.wrap (rd - wr)) 0)), AV.i IntKind.i64 (bmin (fI (ms.getD (0 + (V.w24 (bif ms.length.beq ms.length then ms else List.take ms.length (List.drop 0 ms)) u v).toNat) []) 3) (bmin (IntKind.i64.wrap (rd + wr)) 2000))]) else List.take ms.length (List.drop 0 (ms.set (0 + (V.w24 (bif ms.length.beq ms.length then ms else List.take ms.length (List.drop 0 ms)) u v).toNat) (setCs (ms.getD (0 + (V.w24 (bif ms.length.beq ms.length then ms else List.take ms.length (List.drop 0 ms)) u v).toNat) []) 2 [AV.i IntKind.i64 (bmax (fI (ms.getD (0 + (V.w24 (bif ms.length.beq ms.length then ms else List.take ms.length (List.drop 0 ms)) u v).toNat) []) 2) (bmax (IntKind.i64.wrap (rd - wr)) 0)), AV.i IntKind.i64 (bmin (fI (ms.getD (0 + (V.w24 (bif ms.length.beq ms.length then ms else List.take ms.length (List.drop 0 ms)) u v).toNat) []) 3) (bmin (IntKind.i64.wrap (rd + wr)) 2000))]))))], .i .i64 0])) (.nn))) (.nn)) (.nn))) (.nn)) (.nn)) (.nn)) (.nn)) (.cn (ms.length.beq ms.length && (decide (0 ≤ V.w24 (bif ms.length.beq ms.length then ms else List.take ms.length (List.drop 0 ms)) u v) && ((V.w24 (bif ms.length.beq ms.length then ms else List.take ms.length (List.drop 0 ms)) u v).toNat.ble ms.length && ((ms.length + 1) * 32).ble 140737488355328)) && true) (.cn (decide ((↑(ms.length + 1) : Int) > 40)) (.lf (.tup [.agg [.nl, .nl, .i .i64 0, .i .i64 0, .i .i64 0, .nl], .i .i64 3])) (.cn ((0 + (ms.length + 1)).ble (V.ins ms (V.w24 (bif ms.length.beq ms.length then ms else List.take ms.length (List.drop 0 ms)) u v) [AV.i IntKind.i64 u, AV.i IntKind.i64 v, AV.i IntKind.i64 (bmax (IntKind.i64.wrap (rd - wr)) 0), AV.i IntKind.i64 (bmin (IntKind.i64.wrap (rd + wr)) 2000)]).length) (.cn (V.g15 os hs st tl th (bif (ms.length + 1).beq (V.ins ms (V.w24 (bif ms.length.beq ms.length then ms else List.take ms.length (List.drop 0 ms)) u v) [AV.i IntKind.i64 u, AV.i IntKind.i64 v, AV.i IntKind.i64 (bmax (IntKind.i64.wrap (rd - wr)) 0), AV.i IntKind.i64 (bmin (IntKind.i64.wrap (rd + wr)) 2000)]).length then V.ins ms (V.w24 (bif ms.length.beq ms.length then ms else List.take ms.length (List.drop 0 ms)) u v) [AV.i IntKind.i64 u, AV.i IntKind.i64 v, AV.i IntKind.i64 (bmax (IntKind.i64.wrap (rd - wr)) 0), AV.i IntKind.i64 (bmin (IntKind.i64.wrap (rd + wr)) 2000)] else List.take (ms.length + 1) (List.drop 0 (V.ins ms (V.w24 (bif ms.length.beq ms.length then ms else List.take ms.length (List.drop 0 ms)) u v) [AV.i IntKind.i64 u, AV.i IntKind.i64 v, AV.i IntKind.i64 (bmax (IntKind.i64.wrap (rd - wr)) 0), AV.i IntKind.i64 (bmin (IntKind.i64.wrap (rd + wr)) 2000)])))) (.cn (V.w15 os hs st tl th (bif (ms.length + 1).beq (V.ins ms (V.w24 (bif ms.length.beq ms.length then ms else List.take ms.length (List.drop 0 ms)) u v) [AV.i IntKind.i64 u, AV.i IntKind.i64 v, AV.i IntKind.i64 (bmax (IntKind.i64.wrap (rd - wr)) 0), AV.i IntKind.i64 (bmin (IntKind.i64.wrap (rd + wr)) 2000)]).length then V.ins ms (V.w24 (bif ms.length.beq ms.length then ms else List.take ms.length (List.drop 0 ms)) u v) [AV.i IntKind.i64 u, AV.i IntKind.i64 v, AV.i IntKind.i64 (bmax (IntKind.i64.wrap (rd - wr)) 0), AV.i IntKind.i64 (bmin (IntKind.i64.wrap (rd + wr)) 2000)] else List.take (ms.length + 1) (List.drop 0 (V.ins ms (V.w24 (bif ms.length.beq ms.length then ms else List.take ms.length (List.drop 0 ms)) u v) [AV.i IntKind.i64 u, AV.i IntKind.i64 v, AV.i IntKind.i64 (bmax (IntKind.i64.wrap (rd - wr)) 0), AV.i IntKind.i64 (bmin (IntKind.i64.wrap (rd + wr)) 2000)]))) != 0) (.lf (.tup [.agg [.nl, .nl, .i .i64 0, .i .i64 0, .i .i64 0, .nl], .i .i64 10])) (.cn ((0 + (ms.length + 1)).ble (V.ins ms (V.w24 (bif ms.length.beq ms.length then ms else List.take ms.length (List.drop 0 ms)) u v) [AV.i IntKind.i64 u, AV.i IntKind.i64 v, AV.i IntKind.i64 (bmax (IntKind.i64.wrap (rd - wr)) 0), AV.i IntKind.i64 (bmin (IntKind.i64.wrap (rd + wr)) 2000)]).length) (.lf (.tup [.agg [.rs 32 os, .rs 55 hs, .i .i64 st, .i .i64 tl, .i .i64 th, .rs 67 (bif (ms.length + 1).beq (V.ins ms (V.w24 (bif ms.length.beq ms.length then ms else List.take ms.length (List.drop 0 ms)) u v) [AV.i IntKind.i64 u, AV.i IntKind.i64 v, AV.i IntKind.i64 (bmax (IntKind.i64.wrap (rd - wr)) 0), AV.i IntKind.i64 (bmin (IntKind.i64.wrap (rd + wr)) 2000)]).length then V.ins ms (V.w24 (bif ms.length.beq ms.length then ms else List.take ms.length (List.drop 0 ms)) u v) [AV.i IntKind.i64 u, AV.i IntKind.i64 v, AV.i IntKind.i64 (bmax (IntKind.i64.wrap (rd - wr)) 0), AV.i IntKind.i64 (bmin (IntKind.i64.wrap (rd + wr)) 2000)] else List.take (ms.length + 1) (List.drop 0 (V.ins ms (V.w24 (bif ms.length.beq ms.length then ms else List.take ms.length (List.drop 0 ms)) u v) [AV.i IntKind.i64 u, AV.i IntKind.i64 v, AV.i IntKind.i64 (bmax (IntKind.i64.wrap (rd - wr)) 0), AV.i IntKind.i64 (bmin (IntKind.i64.wrap (rd + wr)) 2000)])))], .i .i64 0])) (.nn))) (.nn)) (.nn))) (.nn))) (.nn)) (.nn)) (.nn))) (.nn))) (.nn))) (.nn))) (.nn)
theorem eq9 (V : Lv) (os hs : List (List AV)) (st tl th : Int) (ms : List (List AV)) (u v rd wr : Int) : evF Try.prog (SP V) ro9 (fun _ _ => none) Try.f9 [.agg [.rs 32 os, .rs 55 hs, .i .i64 st, .i .i64 tl, .i .i64 th, .rs 67 ms], .agg [.i .i64 u, .i .i64 v], .i .i64 rd, .i .i64 wr] = (a9 V os hs st tl th ms u v rd wr).opt id := by kernel_rfl
theorem wk9 (V : Lv) (os hs : List (List AV)) (st tl th : Int) (ms : List (List AV)) (u v rd wr : Int) : (a9 V os hs st tl th ms u v rd wr).map (wkX (.agg [.agg [.e 32, .e 55, .no, .no, .no, .e 67], .no])) = (t9 V os hs st tl th ms u v rd wr).map (fun (x : (List (List AV)) × (List (List AV)) × (Int) × (Int) × (Int) × (List (List AV)) × (Int)) => (.tup [.agg [.rs 32 x.1, .rs 55 x.2.1, .i .i64 x.2.2.1, .i .i64 x.2.2.2.1, .i .i64 x.2.2.2.2.1, .rs 67 x.2.2.2.2.2.1], .i .i64 x.2.2.2.2.2.2] : AV)) := by kernel_rfl
theorem con9 {V : Lv} (hV : V = V0) (os hs : List (List AV)) (st tl th : Int) (ms : List (List AV)) (u v rd wr : Int) (h : g9 V os hs st tl th ms u v rd wr = true) : Con Try.prog 9 [.agg [.rs 32 os, .rs 55 hs, .i .i64 st, .i .i64 tl, .i .i64 th, .rs 67 ms], .agg [.i .i64 u, .i .i64 v], .i .i64 rd, .i .i64 wr] [] (.tup [.agg [.rs 32 (w9_0 V os hs st tl th ms u v rd wr), .rs 55 (w9_1 V os hs st tl th ms u v rd wr), .i .i64 (w9_2 V os hs st tl th ms u v rd wr), .i .i64 (w9_3 V os hs st tl th ms u v rd wr), .i .i64 (w9_4 V os hs st tl th ms u v rd wr), .rs 67 (w9_5 V os hs st tl th ms u v rd wr)], .i .i64 (w9_6 V os hs st tl th ms u v rd wr)]) [] := by
  obtain ⟨v, h1, h2⟩ := Tr.soundX (eq9 V os hs st tl th ms u v rd wr) (wk9 V os hs st tl th ms u v rd wr) h
  have := (con_of (SP_ok hV) mixed Try.func9 (c := c9) rfl (names 9 _ Try.func9) (lok9 V) h1).wkX (.agg [.agg [.e 32, .e 55, .no, .no, .no, .e 67], .no])
  rw [h2] at this
  exact this
noncomputable def e9 (args : List AV) (rows : List Blk) : Option (Bool × AV × List Blk) := match args, rows with
  | [.agg [.rs 32 os, .rs 55 hs, .i .i64 st, .i .i64 tl, .i .i64 th, .rs 67 ms], .agg [.i .i64 u, .i .i64 v], .i .i64 rd, .i .i64 wr], [] => some (g9 V0 os hs st tl th ms u v rd wr, .tup [.agg [.rs 32 (w9_0 V0 os hs st tl th ms u v rd wr), .rs 55 (w9_1 V0 os hs st tl th ms u v rd wr), .i .i64 (w9_2 V0 os hs st tl th ms u v rd wr), .i .i64 (w9_3 V0 os hs st tl th ms u v rd wr), .i .i64 (w9_4 V0 os hs st tl th ms u v rd wr), .rs 67 (w9_5 V0 os hs st tl th ms u v rd wr)], .i .i64 (w9_6 V0 os hs st tl th ms u v rd wr)], [])
  | _, _ => none
-- SPEC 9
end Go.Proofs.Ytoglnllbopcejaa

set_option maxRecDepth 100000
set_option linter.unusedVariables false
namespace Go.Proofs.Ytoglnllbopcejaa
open Go Go.Ev
theorem mid_eq {a b : Nat} (h : a + b < 9223372036854775807) : IntKind.i64.wrap ((IntKind.u64.wrap (IntKind.i64.wrap ((a : Int) + (b : Int)))).fdiv (2 ^ 1)) = (((a + b) / 2 : Nat) : Int) := by
  have h1 : IntKind.i64.wrap ((a : Int) + (b : Int)) = ((a + b : Nat) : Int) := (wrap64 (by omega) (by omega)).trans (by omega)
  have h2 : IntKind.u64.wrap ((a + b : Nat) : Int) = ((a + b : Nat) : Int) := by
    simp only [IntKind.wrap, IntKind.signed, IntKind.bits]
    simp
    omega
  rw [h1, h2, Int.fdiv_eq_ediv_of_nonneg _ (by decide)]
  rw [show (((a + b : Nat) : Int) / (2 ^ 1)) = (((a + b) / 2 : Nat) : Int) by omega]
  exact wrap64 (by omega) (by omega)
structure At (L : List Mk) (p : Mk) (k : Nat) : Prop where
  le : k ≤ L.length
  pre : ∀ i, i < k → ahead (gm L i) p
  post : ∀ i, k ≤ i → i < L.length → ¬ ahead (gm L i) p
theorem ins_at {p : Mk} : ∀ {L : List Mk} {k : Nat}, At L p k → insM p L = if k < L.length ∧ atP (gm L k) p then L.set k (mrg (gm L k) p) else L.take k ++ p :: L.drop k
  | [], k, h => by
    have := h.le
    simp at this
    subst this
    simp [insM]
  | m :: r, 0, h => by
    have hn := h.post 0 (by omega) (by simp)
    have hg : gm (m :: r) 0 = m := rfl
    rw [hg] at hn ⊢
    unfold insM
    by_cases he : atP m p
    · rw [if_pos he, if_pos ⟨by simp, he⟩]; rfl
    · rw [if_neg he]
      rcases ahead_tri m p with h | h | h
      · exact absurd h hn
      · exact absurd h he
      · rw [if_pos h, if_neg (fun h => he h.2)]; rfl
  | m :: r, k + 1, h => by
    have h0 := h.pre 0 (by omega)
    have hg : gm (m :: r) 0 = m := rfl
    rw [hg] at h0
    have ih := ins_at (p := p) (L := r) (k := k) ⟨by have := h.le; simpa using this, fun i hi => h.pre (i + 1) (by omega), fun i hi hj => h.post (i + 1) (by omega) (by simpa using hj)⟩
    unfold insM
    rw [if_neg (ahead_not h0).2.1, if_neg (ahead_not h0).1, ih]
    have hg2 : gm (m :: r) (k + 1) = gm r k := rfl
    rw [hg2]
    by_cases hc : k < r.length ∧ atP (gm r k) p
    · rw [if_pos hc, if_pos ⟨by simpa using hc.1, hc.2⟩]; rfl
    · rw [if_neg hc, if_neg (fun h => hc ⟨by simpa using h.1, h.2⟩)]; rfl
theorem k24 {L : List Mk} (h : Sorted L) (hl : L.length < 4611686018427387904) (p : Mk) : ∃ k, At L p k ∧ g24 (L.map en) p.u p.v = true ∧ w24_0 (L.map en) p.u p.v = (k : Int) ∧ w24_1 (L.map en) p.u p.v = decide (k < L.length ∧ atP (gm L k) p) := by
  obtain ⟨y, hy, k, rfl, hk⟩ := run_fall (step := fun x => stp24a (L.map en) p.u p.v 0 false ((L.map en).length : Int) x.t9 x.t10) (fun x => (x.t10 - x.t9).toNat)
    (fun x => ∃ lo hi : Nat, x = ⟨(lo : Int), (hi : Int)⟩ ∧ lo ≤ hi ∧ hi ≤ L.length ∧ (∀ i, i < lo → ahead (gm L i) p) ∧ ∀ i, hi ≤ i → i < L.length → ¬ ahead (gm L i) p)
    (fun y => ∃ k : Nat, y = .x0 (k : Int) (k : Int) ∧ At L p k) (fun x hx => by
      obtain ⟨lo, hi, rfl, h1, h2, h3, h4⟩ := hx
      unfold stp24a
      refine LpOK.cond (fun hlt => ?_) (fun hlt => ?_)
      · have hlt : lo < hi := by have : (lo : Int) < (hi : Int) := of_decide_eq_true hlt; omega
        have hm : (lo + hi) / 2 < L.length := by omega
        simp only [mid_eq (show lo + hi < 9223372036854775807 by omega), Int.toNat_natCast, inb_true (show (lo + hi) / 2 < (L.map en).length by rw [List.length_map]; exact hm), cond_true, (k25 _ _ _ _ _ _).1, (k25 _ _ _ _ _ _).2, map_getD hm]
        show LpOK _ _ (cond (decide (orderI (gm L ((lo + hi) / 2)).u (gm L ((lo + hi) / 2)).v p.u p.v < 0)) _ _)
        refine LpOK.cond (fun ha => ?_) (fun ha => ?_)
        · have ha := (order_ahead _ _).1 (of_decide_eq_true ha)
          rw [wrap_succ (show (lo + hi) / 2 < 9223372036854775807 by omega)]
          refine ⟨⟨(lo + hi) / 2 + 1, hi, rfl, by omega, h2, fun i hi' => ?_, h4⟩, ?_⟩
          · by_cases e : i = (lo + hi) / 2
            · subst e; exact ha
            · exact ahead_trans (sorted_at h i _ (by omega) hm) ha
          · show (((hi : Int) - ((((lo + hi) / 2 + 1 : Nat)) : Int)).toNat) < ((hi : Int) - (lo : Int)).toNat
            omega
        · have ha : ¬ ahead (gm L ((lo + hi) / 2)) p := fun h => of_decide_eq_false ha ((order_ahead _ _).2 h)
          refine ⟨⟨lo, (lo + hi) / 2, rfl, by omega, by omega, h3, fun i hi' hj => ?_⟩, ?_⟩
          · by_cases e : i = (lo + hi) / 2
            · subst e; exact ha
            · exact fun hh => ha (ahead_trans (sorted_at h _ i (by omega) hj) hh)
          · show (((((lo + hi) / 2 : Nat) : Int)) - (lo : Int)).toNat < ((hi : Int) - (lo : Int)).toNat
            omega
      · have hlt : ¬ (lo : Int) < (hi : Int) := of_decide_eq_false hlt
        have : lo = hi := by omega
        subst this
        exact ⟨lo, rfl, h2, h3, h4⟩)
    ⟨0, ((L.map en).length : Int)⟩ ⟨0, L.length, by rw [List.length_map]; rfl, by omega, by omega, fun i hi => absurd hi (by omega), fun i h1 h2 => absurd h2 (by omega)⟩
  refine ⟨k, hk, ?_⟩
  have hr : r24a (L.map en) p.u p.v 0 false ((L.map en).length : Int) 0 ((L.map en).length : Int) = some (.x0 (k : Int) (k : Int)) := hy
  have := TrP.ok (t := t24 (L.map en) p.u p.v) (p := fun x => x = ((k : Int), decide (k < L.length ∧ atP (gm L k) p))) (by
    unfold t24 i24a_0 v24a_0_t9
    rw [hr]
    refine .t rfl ?_
    show TrP _ (.cn (decide ((k : Int) < ((L.map en).length : Int))) (.cn (inb (k : Int) (L.map en).length) _ _) _)
    refine .cn (fun hlt => ?_) (fun hlt => ?_)
    · have hlt := of_decide_eq_true hlt
      have hkl : k < L.length := by rw [List.length_map] at hlt; omega
      refine .t (inb_true (by rw [List.length_map]; exact hkl)) ?_
      simp only [Int.toNat_natCast, map_getD hkl]
      refine .t (k25 _ _ _ _ _ _).1 ?_
      rw [(k25 _ _ _ _ _ _).2]
      show (_, orderI (gm L k).u (gm L k).v p.u p.v == 0) = _
      rw [order_zero, show decide (k < L.length ∧ atP (gm L k) p) = decide (atP (gm L k) p) from decide_eq_decide.2 ⟨fun h => h.2, fun h => ⟨hkl, h⟩⟩]
    · have hlt := of_decide_eq_false hlt
      show (_, false) = _
      rw [show decide (k < L.length ∧ atP (gm L k) p) = false from decide_eq_false (fun h => by rw [List.length_map] at hlt; omega)])
  refine ⟨this.1, ?_, ?_⟩
  · unfold w24_0; rw [this.2]
  · unfold w24_1; rw [this.2]
end Go.Proofs.Ytoglnllbopcejaa

set_option maxRecDepth 100000
set_option linter.unusedVariables false
namespace Go.Proofs.Ytoglnllbopcejaa
open Go Go.Ev
def pr (u v rd wr : Int) : Mk := ⟨u, v, max (rd - wr) 0, min (rd + wr) 2000⟩
abbrev SkT := (List (List AV)) × (List (List AV)) × Int × Int × Int × (List (List AV)) × Int
def noSk (e : Int) : SkT := ([], [], 0, 0, 0, [], e)
def probeX (os hs : List (List AV)) (st tl th : Int) (L : List Mk) (u v rd wr : Int) : SkT :=
  cond (checkW os hs (L.map en) st tl th != 0) (noSk (checkW os hs (L.map en) st tl th)) (cond (!hasB os hs u v) (noSk 7) (cond (!inB rd 0 2000) (noSk 1) (cond (!inB wr 0 2000) (noSk 1)
    (cond (decide (((insM (pr u v rd wr) L).length : Int) > 40)) (noSk 3) (cond (checkW os hs ((insM (pr u v rd wr) L).map en) st tl th != 0) (noSk 10) (os, hs, st, tl, th, (insM (pr u v rd wr) L).map en, 0))))))
theorem nbeq (n : Nat) : n.beq n = true := Nat.beq_refl n
theorem nble {a b : Nat} (h : a ≤ b) : Nat.ble a b = true := Nat.ble_eq_true_of_le h
theorem nblt {a b : Nat} (h : a < b) : Nat.blt a b = true := Nat.ble_eq_true_of_le h
theorem set_en (m : Mk) (a b : Int) : setCs (en m) 2 [.i .i64 a, .i .i64 b] = en ⟨m.u, m.v, a, b⟩ := rfl
theorem map_set (L : List Mk) (k : Nat) (m : Mk) : (L.map en).set k (en m) = (L.set k m).map en := by rw [List.map_set]
theorem said_lo {rd wr : Int} (h1 : inB rd 0 2000 = true) (h2 : inB wr 0 2000 = true) : IntKind.i64.wrap (rd - wr) = rd - wr ∧ IntKind.i64.wrap (rd + wr) = rd + wr := by
  have h1 := inB_true.1 h1
  have h2 := inB_true.1 h2
  exact ⟨wrap64 (by omega) (by omega), wrap64 (by omega) (by omega)⟩
theorem bmin_min (a b : Int) : bmin a b = min a b := by unfold bmin; split <;> omega
theorem out_len {os : List (List AV)} (h : outW os = 0) : os.length ≤ 12 := outR_zero (by rw [← out_eq, h]; rfl)
theorem k9 (os hs : List (List AV)) (st tl th : Int) (L : List Mk) (u v rd wr : Int) (ho : okS os = true) : g9 V0 os hs st tl th (L.map en) u v rd wr = true ∧ (t9 V0 os hs st tl th (L.map en) u v rd wr).val = probeX os hs st tl th L u v rd wr := by
  refine TrP.ok (t := t9 V0 os hs st tl th (L.map en) u v rd wr) (p := fun x => x = probeX os hs st tl th L u v rd wr) ?_
  unfold t9 probeX
  simp only [nbeq, cond_true, Nat.zero_add]
  refine .t (k15 os hs st tl th _ ho).1 ?_
  show TrP _ (.cn (w15_0 os hs st tl th (L.map en) != 0) (.lf ([], [], 0, 0, 0, [], w15_0 os hs st tl th (L.map en))) _)
  rw [(k15 os hs st tl th _ ho).2]
  cases hc : checkW os hs (L.map en) st tl th != 0
  · have hF := check_fine.1 (by simpa using hc : checkW os hs (L.map en) st tl th = 0)
    have h12 := out_len hF.out
    have h6 := hF.six
    have h40 := hF.len
    have hh : hs.length < 9223372036854775807 := by omega
    refine .f rfl (.t (k21 os hs u v ho hh).1 ?_)
    show TrP _ (.cn (!w21_0 os hs u v) _ _)
    rw [(k21 os hs u v ho hh).2]
    cases hasB os hs u v
    · exact .t rfl rfl
    · refine .f rfl (.t (k22 _ _ _).1 ?_)
      rw [(k22 _ _ _).2]
      cases h1 : inB rd 0 2000
      · exact .t rfl rfl
      · refine .f rfl (.t (k22 _ _ _).1 ?_)
        rw [(k22 _ _ _).2]
        cases h2 : inB wr 0 2000
        · exact .t rfl rfl
        · obtain ⟨s1, s2⟩ := said_lo h1 h2
          obtain ⟨k, hk, q1, q2, q3⟩ := k24 hF.srt (by omega) (pr u v rd wr)
          have q1 : g24 (L.map en) u v = true := q1
          have q2 : V0.w24 (L.map en) u v = (k : Int) := q2
          have q3 : V0.y24 (L.map en) u v = decide (k < L.length ∧ atP (gm L k) (pr u v rd wr)) := q3
          have hi := ins_at hk
          have hkl := hk.le
          refine .f rfl (.t (by simp [nble (show os.length * 16 ≤ 140737488355328 by omega), nble (show hs.length * 32 ≤ 140737488355328 by omega), nble (show L.length * 32 ≤ 140737488355328 by omega)]) (.t (nble (Nat.le_refl _)) (.t q1 ?_)))
          rw [q2, q3, s1, s2]
          simp only [Int.toNat_natCast]
          by_cases hb : k < L.length ∧ atP (gm L k) (pr u v rd wr)
          · have hkm : k < (L.map en).length := by rw [List.length_map]; exact hb.1
            have hms : (L.map en).set k (setCs ((L.map en).getD k []) 2 [AV.i IntKind.i64 (bmax (fI ((L.map en).getD k []) 2) (bmax (rd - wr) 0)), AV.i IntKind.i64 (bmin (fI ((L.map en).getD k []) 3) (bmin (rd + wr) 2000))]) = (insM (pr u v rd wr) L).map en := by
              rw [map_getD hb.1, set_en, map_set, hi, if_pos hb, bmax_max, bmax_max, bmin_min, bmin_min]
              rfl
            have hln : (insM (pr u v rd wr) L).length = L.length := by rw [hi, if_pos hb, List.length_set]
            refine .t (decide_eq_true hb) (.t (by rw [inb_true hkm, nblt hkm]; rfl) (.t (nblt hkm) (.t (nblt hkm) (.t (nblt hkm) ?_))))
            rw [hms, hln]
            simp only [List.length_map, hln, nbeq, cond_true]
            refine .f (decide_eq_false (by omega)) ?_
            rw [show decide ((L.length : Int) > 40) = false from decide_eq_false (by omega)]
            refine .t (nble (Nat.le_refl _)) (.t (k15 os hs st tl th _ ho).1 ?_)
            show TrP _ (.cn (w15_0 os hs st tl th _ != 0) _ _)
            rw [(k15 os hs st tl th _ ho).2]
            cases checkW os hs ((insM (pr u v rd wr) L).map en) st tl th != 0
            · exact .f rfl (.t (nble (Nat.le_refl _)) rfl)
            · exact .t rfl rfl
          · have hms : V0.ins (L.map en) (k : Int) [AV.i IntKind.i64 u, AV.i IntKind.i64 v, AV.i IntKind.i64 (bmax (rd - wr) 0), AV.i IntKind.i64 (bmin (rd + wr) 2000)] = (insM (pr u v rd wr) L).map en := by
              rw [hi, if_neg hb, bmax_max, bmin_min]
              show insL (L.map en) ((k : Int)).toNat (en (pr u v rd wr)) = _
              unfold insL
              rw [Int.toNat_natCast, List.map_append, List.map_take, List.map_cons, List.map_drop]
            have hln : (insM (pr u v rd wr) L).length = L.length + 1 := by rw [hi, if_neg hb]; simp; omega
            refine .f (decide_eq_false hb) (.t (by rw [List.length_map, nble hkl, nble (show (L.length + 1) * 32 ≤ 140737488355328 by omega), show decide (0 ≤ (k : Int)) = true from decide_eq_true (by omega)]; rfl) ?_)
            rw [hms]
            simp only [List.length_map, hln, nbeq, cond_true]
            cases decide (((L.length + 1 : Nat) : Int) > 40)
            · refine .f rfl (.t (nble (Nat.le_refl _)) (.t (k15 os hs st tl th _ ho).1 ?_))
              show TrP _ (.cn (w15_0 os hs st tl th _ != 0) _ _)
              rw [(k15 os hs st tl th _ ho).2]
              cases checkW os hs ((insM (pr u v rd wr) L).map en) st tl th != 0
              · exact .f rfl (.t (nble (Nat.le_refl _)) rfl)
              · exact .t rfl rfl
            · exact .t rfl rfl
  · exact .t rfl rfl
end Go.Proofs.Ytoglnllbopcejaa

set_option maxRecDepth 100000
set_option maxHeartbeats 0
set_option linter.unusedVariables false
namespace Go.Proofs.Ytoglnllbopcejaa
open Go Go.Ev

noncomputable def c13 : Code := match Try.f13.body with | some c => c | _ => .skip
theorem lok13 : LOK Try.prog SW7 (ro 13) (fun _ _ => none) 0 false c13 [] :=
  lok_lo (fun _ _ _ _ _ _ _ h _ => by cases h) c13 [] false (locate_nil _) (by kernel_rfl)
noncomputable def t13 (os hs : List (List AV)) (st tl th : Int) (ms : List (List AV)) (u v : Int) : Tr ((Int) × (Int) × (Int)) :=
  .cn (g15 os hs st tl th ms) (.cn (w15_0 os hs st tl th ms != 0) (.lf (0, 0, w15_0 os hs st tl th ms)) (.cn (g21 os hs u v) (.cn (!w21_0 os hs u v) (.lf (0, 0, 7)) (.cn (g33 os hs st tl th ms u v) (.lf (w33_0 os hs st tl th ms u v, w33_1 os hs st tl th ms u v, 0)) (.nn))) (.nn))) (.nn)
noncomputable def g13 (os hs : List (List AV)) (st tl th : Int) (ms : List (List AV)) (u v : Int) : Bool := (t13 os hs st tl th ms u v).g
noncomputable def w13_0 (os hs : List (List AV)) (st tl th : Int) (ms : List (List AV)) (u v : Int) : Int := (t13 os hs st tl th ms u v).val.1
noncomputable def w13_1 (os hs : List (List AV)) (st tl th : Int) (ms : List (List AV)) (u v : Int) : Int := (t13 os hs st tl th ms u v).val.2.1
noncomputable def w13_2 (os hs : List (List AV)) (st tl th : Int) (ms : List (List AV)) (u v : Int) : Int := (t13 os hs st tl th ms u v).val.2.2
theorem eq13 (os hs : List (List AV)) (st tl th : Int) (ms : List (List AV)) (u v : Int) : evF Try.prog SW7 (ro 13) (fun _ _ => none) Try.f13 [.agg [.rs 32 os, .rs 55 hs, .i .i64 st, .i .i64 tl, .i .i64 th, .rs 67 ms], .agg [.i .i64 u, .i .i64 v]] = (t13 os hs st tl th ms u v).opt (fun (x : (Int) × (Int) × (Int)) => (.tup [.agg [.i .i64 x.1, .i .i64 x.2.1], .i .i64 x.2.2] : AV)) := by kernel_rfl
theorem con13 (os hs : List (List AV)) (st tl th : Int) (ms : List (List AV)) (u v : Int) (h : g13 os hs st tl th ms u v = true) : Con Try.prog 13 [.agg [.rs 32 os, .rs 55 hs, .i .i64 st, .i .i64 tl, .i .i64 th, .rs 67 ms], .agg [.i .i64 u, .i .i64 v]] [] (.tup [.agg [.i .i64 (w13_0 os hs st tl th ms u v), .i .i64 (w13_1 os hs st tl th ms u v)], .i .i64 (w13_2 os hs st tl th ms u v)]) [] :=
  con_of SW7_ok mixed Try.func13 (c := c13) rfl (names 13 _ Try.func13) lok13 ((eq13 os hs st tl th ms u v).trans (Tr.sound _ _ h))
noncomputable def e13 (args : List AV) (rows : List Blk) : Option (Bool × AV × List Blk) := match args, rows with
  | [.agg [.rs 32 os, .rs 55 hs, .i .i64 st, .i .i64 tl, .i .i64 th, .rs 67 ms], .agg [.i .i64 u, .i .i64 v]], [] => some (g13 os hs st tl th ms u v, .tup [.agg [.i .i64 (w13_0 os hs st tl th ms u v), .i .i64 (w13_1 os hs st tl th ms u v)], .i .i64 (w13_2 os hs st tl th ms u v)], [])
  | _, _ => none
-- SPEC 13
end Go.Proofs.Ytoglnllbopcejaa

set_option maxRecDepth 100000
set_option linter.unusedVariables false
namespace Go.Proofs.Ytoglnllbopcejaa
open Go Go.Ev
noncomputable def SQ (V : Lv) : Ev.Spec := insS 39 e39 (insS 37 e37 (SP V))
theorem SQ_ok {V : Lv} (hV : V = V0) : SpecOK Try.prog (SQ V) := insS_ok e39_ok (insS_ok e37_ok (SP_ok hV))
def ro17 (t : Nat) : Bool := cond (Nat.beq t 1000030) false (cond (Nat.beq t 1000028) false (ro 17 t))
end Go.Proofs.Ytoglnllbopcejaa
