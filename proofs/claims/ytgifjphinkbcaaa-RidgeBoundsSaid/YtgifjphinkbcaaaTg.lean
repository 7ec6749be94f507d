/-
  The law RidgeBounds of the roofer's ridges answers true whatever Rods and weights it is handed; no conditions.
-/
import Derived.Test.YtgifjphinkbcaaaTf
import Derived.Test.YtgifjphinkbcaaaTd
set_option linter.unusedVariables false
set_option maxRecDepth 100000
set_option linter.unusedVariables false
namespace Go.Proofs.Ytgifjphinkbcaaa
open Go Go.Ev
/-! ### The folds -/
def fold (da db : Int) (cs : List (List AV)) (k : Int) (j : Nat) : Int := (k * (ln cs j + db)).tdiv (da + db)
theorem fold_bd {da db : Int} {cs : List (List AV)} (hF : RFine da db cs) {k : Int} (h0 : 0 ≤ k) (h1 : k ≤ 20) {j : Nat} (hj : j < cs.length) : 0 ≤ fold da db cs k j ∧ fold da db cs k j ≤ 4000000 := by
  have hc := hF.c j hj
  have ha := hF.a
  have hb := hF.b
  unfold okCut at hc
  have hm : 0 ≤ k * (ln cs j + db) := Int.mul_nonneg h0 (by omega)
  have hm2 : k * (ln cs j + db) ≤ 20 * 200000 := Int.mul_le_mul h1 (by omega) (by omega) (by omega)
  unfold fold
  refine ⟨Int.tdiv_nonneg hm (by omega), ?_⟩
  rw [Int.tdiv_eq_ediv_of_nonneg hm]
  exact Int.le_trans (Int.ediv_le_self _ hm) (by omega)
theorem fold_le {da db : Int} {cs : List (List AV)} (hF : RFine da db cs) {k : Int} (h0 : 0 ≤ k) (h1 : k ≤ 20) {j : Nat} (hj : j < cs.length) : fold da db cs k j ≤ 1000000 := by
  have hc := hF.c j hj
  have ha := hF.a
  have hb := hF.b
  have hf := hF.f j hj
  unfold okCut at hc
  have hm : 0 ≤ k * (ln cs j + db) := Int.mul_nonneg h0 (by omega)
  unfold fold
  rw [Int.tdiv_eq_ediv_of_nonneg hm]
  have h2 : k * (ln cs j + db) ≤ 20 * (da + db) := Int.mul_le_mul h1 (by omega) (by omega) (by omega)
  have h3 : k * (ln cs j + db) / (da + db) ≤ 20 * (da + db) / (da + db) := Int.ediv_le_ediv (by omega) h2
  rw [Int.mul_ediv_cancel _ (by omega)] at h3
  omega
theorem ones_succ (f : Nat → Int) (k : Nat) : ones f k ++ [[.i .i64 (f k)]] = ones f (k + 1) := by
  unfold ones
  rw [List.range_succ, List.map_append]
  rfl
theorem fold_step {da db : Int} {cs : List (List AV)} (hF : RFine da db cs) {k : Int} (h0 : 0 ≤ k) (h1 : k ≤ 20) {j : Nat} (hj : j < cs.length) :
    IntKind.i64.wrap ((IntKind.i64.wrap (k * IntKind.i64.wrap (fI (cs.getD j []) 0 + db))).tdiv (IntKind.i64.wrap (da + db))) = fold da db cs k j ∧ decide (IntKind.i64.wrap (da + db) = 0) = false := by
  have hc := hF.c j hj
  have ha := hF.a
  have hb := hF.b
  unfold okCut at hc
  have hm : 0 ≤ k * (ln cs j + db) := Int.mul_nonneg h0 (by omega)
  have hm2 : k * (ln cs j + db) ≤ 20 * 200000 := Int.mul_le_mul h1 (by omega) (by omega) (by omega)
  have e0 : fI (cs.getD j []) 0 = ln cs j := rfl
  have hfb := fold_bd hF h0 h1 hj
  rw [e0, wrap64 (x := ln cs j + db) (by omega) (by omega), wrap64 (x := k * (ln cs j + db)) (by omega) (by omega), wrap64 (x := da + db) (by omega) (by omega)]
  refine ⟨?_, decide_eq_false (by omega)⟩
  show IntKind.i64.wrap (fold da db cs k j) = _
  exact wrap64 (by omega) (by omega)
theorem inner26 {da db t2 t4 : Int} {cs T3 : List (List AV)} (hF : RFine da db cs) {k : Int} (h0 : 0 ≤ k) (h1 : k ≤ 20) : ∃ a, r26aa da db cs t2 T3 t4 k cs (cs.length : Int) [] 0 = some (.x0 (ones (fold da db cs k) cs.length) a) := by
  have hN := hF.l
  have run : ∃ y, r26aa da db cs t2 T3 t4 k cs (cs.length : Int) (ones (fold da db cs k) 0) 0 = some y ∧ ∃ a, y = .x0 (ones (fold da db cs k) cs.length) a := by
    unfold r26aa
    refine run_for (S := Unit) cs.length (fun j _ => (⟨ones (fold da db cs k) j, (j : Int)⟩ : S26aa)) (fun _ _ => True) (fun _ _ (y : T26aa) => ∃ a, y = .x0 (ones (fold da db cs k) cs.length) a) (fun j _ hj _ => ?_) (fun _ _ => ?_) 0 () (Nat.zero_le _) trivial
    · left
      refine ⟨(), ?_, trivial, fun y hy => hy⟩
      show stp26aa da db cs t2 T3 t4 k cs (cs.length : Int) (ones (fold da db cs k) j) (j : Int) = _
      unfold stp26aa
      obtain ⟨f1, f2⟩ := fold_step hF h0 h1 hj
      have l1 : ∀ z : List AV, ((ones (fold da db cs k) j).length + [z].length).ble 9223372036854775807 = true := fun z => by
        rw [Nat.ble_eq, ones_len]
        show j + 1 ≤ _
        omega
      have l2 : ∀ z : List AV, (((ones (fold da db cs k) j).length + [z].length) * 8).ble 140737488355328 = true := fun z => by
        rw [Nat.ble_eq, ones_len]
        show (j + 1) * 8 ≤ _
        omega
      rw [Int.toNat_natCast, f1, f2, l1, l2, lt_true hj, inb_true hj, wrap_succ (by omega), ones_succ]
      rfl
    · refine ⟨.x0 (ones (fold da db cs k) cs.length) (cs.length : Int), ?_, _, rfl⟩
      show stp26aa da db cs t2 T3 t4 k cs (cs.length : Int) (ones (fold da db cs k) cs.length) (cs.length : Int) = _
      unfold stp26aa
      rw [lt_false]; rfl
  obtain ⟨y, h1, a, h2⟩ := run
  exact ⟨a, by rw [← h2]; exact h1⟩
theorem inner27 {da db t2 t4 t6 : Int} {cs T7 : List (List AV)} (hF : RFine da db cs) {k : Int} (h0 : 0 ≤ k) (h1 : k ≤ 20) : ∃ a, r27aa da db cs t2 t4 t6 T7 k [] 0 = some (.x0 (ones (fold da db cs k) cs.length) a) := by
  have hN := hF.l
  have run : ∃ y, r27aa da db cs t2 t4 t6 T7 k (ones (fold da db cs k) 0) 0 = some y ∧ ∃ a, y = .x0 (ones (fold da db cs k) cs.length) a := by
    unfold r27aa
    refine run_for (S := Unit) cs.length (fun j _ => (⟨ones (fold da db cs k) j, (j : Int)⟩ : S27aa)) (fun _ _ => True) (fun _ _ (y : T27aa) => ∃ a, y = .x0 (ones (fold da db cs k) cs.length) a) (fun j _ hj _ => ?_) (fun _ _ => ?_) 0 () (Nat.zero_le _) trivial
    · left
      refine ⟨(), ?_, trivial, fun y hy => hy⟩
      show stp27aa da db cs t2 t4 t6 T7 k (ones (fold da db cs k) j) (j : Int) = _
      unfold stp27aa
      obtain ⟨f1, f2⟩ := fold_step hF h0 h1 hj
      have l1 : ∀ z : List AV, ((ones (fold da db cs k) j).length + [z].length).ble 9223372036854775807 = true := fun z => by
        rw [Nat.ble_eq, ones_len]
        show j + 1 ≤ _
        omega
      have l2 : ∀ z : List AV, (((ones (fold da db cs k) j).length + [z].length) * 8).ble 140737488355328 = true := fun z => by
        rw [Nat.ble_eq, ones_len]
        show (j + 1) * 8 ≤ _
        omega
      rw [Int.toNat_natCast, f1, f2, l1, l2, lt_true hj, inb_true hj, wrap_succ (by omega), ones_succ]
      rfl
    · refine ⟨.x0 (ones (fold da db cs k) cs.length) (cs.length : Int), ?_, _, rfl⟩
      show stp27aa da db cs t2 t4 t6 T7 k (ones (fold da db cs k) cs.length) (cs.length : Int) = _
      unfold stp27aa
      rw [lt_false]; rfl
  obtain ⟨y, h1, a, h2⟩ := run
  exact ⟨a, by rw [← h2]; exact h1⟩
theorem lower_eq (da db : Int) (cs : List (List AV)) : g26 da db cs = true ∧ g27 da db cs = true ∧ w27_0 da db cs = w26_0 da db cs ∧ w27_1 da db cs = w26_1 da db cs ∧ w27_2 da db cs = w26_2 da db cs ∧ (w26_1 da db cs).length ≤ 8 := by
  obtain ⟨c1, c2, c3, c4⟩ := rods_eq da db cs
  by_cases h0 : w24_0 da db cs = 0
  · have hz : ((0 : Int) != 0) = false := by decide
    have hF := c4 h0
    have hN := hF.l
    have run : ∃ y y', r26a da db cs 0 (-1) [] (((0 : Nat) : Int) + 1) = some y ∧ r27a da db cs 0 0 (-1) [] (((0 : Nat) : Int) + 1) = some y' ∧ (match y, y' with
        | .x0 a b _, .x0 a' b' _ => a = a' ∧ b = b' ∧ b.length ≤ 8) := by
      unfold r26a r27a
      refine run_sim (S := Int × List (List AV)) 20 (fun k s => (⟨s.1, s.2, (k : Int) + 1⟩ : S26a)) (fun k s => (⟨s.1, s.2, (k : Int) + 1⟩ : S27a)) (fun k s => s.2.length ≤ 8) (fun (y : T26a) (y' : T27a) => match y, y' with
        | .x0 a b _, .x0 a' b' _ => a = a' ∧ b = b' ∧ b.length ≤ 8) (fun k s hk hm => ?_) (fun s hm => ?_) 0 (-1, []) (Nat.zero_le _) (Nat.zero_le _)
      · obtain ⟨best, T⟩ := s
        left
        obtain ⟨a, ha⟩ := inner26 (t2 := best) (t4 := 0) (T3 := T) hF (k := (k : Int) + 1) (by omega) (by omega)
        obtain ⟨b, hb⟩ := inner27 (t2 := 0) (t4 := 0) (t6 := best) (T7 := T) hF (k := (k : Int) + 1) (by omega) (by omega)
        have hol : (ones (fold da db cs ((k : Int) + 1)) cs.length).length = cs.length := ones_len _ _
        obtain ⟨q1, q2, q3, _⟩ := bounds_eq (ws := ones (fold da db cs ((k : Int) + 1)) cs.length) hF hol (fun i hi => by
          rw [hol] at hi
          have e : vv (ones (fold da db cs ((k : Int) + 1)) cs.length) i = fold da db cs ((k : Int) + 1) i := by
            unfold vv
            rw [ones_get hi]; rfl
          rw [e]
          exact ⟨(fold_bd hF (by omega) (by omega) hi).1, fold_le hF (by omega) (by omega) hi⟩)
        have d : decide ((k : Int) + 1 ≤ 20) = true := decide_eq_true (by omega)
        have ew : IntKind.i64.wrap ((k : Int) + 1 + 1) = ((k + 1 : Nat) : Int) + 1 := (wrap64 (by omega) (by omega)).trans (by omega)
        have s1 : ∀ s', stp26a da db cs 0 best T ((k : Int) + 1) = .go s' → run (fun x : S26a => stp26a da db cs 0 x.t2 x.t3 x.t6) ⟨best, T, (k : Int) + 1⟩ = run (fun x : S26a => stp26a da db cs 0 x.t2 x.t3 x.t6) s' := fun s' h => run_go h
        by_cases hgt : w56_0 da db cs (ones (fold da db cs ((k : Int) + 1)) cs.length) > best
        · refine ⟨(w56_0 da db cs (ones (fold da db cs ((k : Int) + 1)) cs.length), ones (fold da db cs ((k : Int) + 1)) cs.length), ?_, ?_, ?_⟩
          · show stp26a da db cs 0 best T ((k : Int) + 1) = _
            unfold stp26a i26aa_0 v26aa_0_t7
            rw [ha]
            simp only
            rw [d, q1, decide_eq_true hgt, ew]
            rfl
          · show stp27a da db cs 0 0 best T ((k : Int) + 1) = _
            unfold stp27a i27aa_0 v27aa_0_t9
            rw [hb]
            simp only
            rw [d, q2, q3, decide_eq_true hgt, ew]
            rfl
          · show (ones (fold da db cs ((k : Int) + 1)) cs.length).length ≤ 8
            omega
        · refine ⟨(best, T), ?_, ?_, hm⟩
          · show stp26a da db cs 0 best T ((k : Int) + 1) = _
            unfold stp26a i26aa_0 v26aa_0_t7
            rw [ha]
            simp only
            rw [d, q1, decide_eq_false hgt, ew]
            rfl
          · show stp27a da db cs 0 0 best T ((k : Int) + 1) = _
            unfold stp27a i27aa_0 v27aa_0_t9
            rw [hb]
            simp only
            rw [d, q2, q3, decide_eq_false hgt, ew]
            rfl
      · obtain ⟨best, T⟩ := s
        refine ⟨.x0 best T 21, .x0 best T 21, ?_, ?_, rfl, rfl, hm⟩
        · show stp26a da db cs 0 best T 21 = _
          rfl
        · show stp27a da db cs 0 0 best T 21 = _
          rfl
    obtain ⟨y, y', hy, hy', hv⟩ := run
    have hy : r26a da db cs 0 (-1) [] 1 = some y := hy
    have hy' : r27a da db cs 0 0 (-1) [] 1 = some y' := hy'
    unfold g26 g27 w26_0 w26_1 w26_2 w27_0 w27_1 w27_2 t26 t27 i26a_0 i27a_0 v26a_0_t2 v26a_0_t3 v27a_0_t6 v27a_0_t7
    rw [c1, c2, c3, h0, hz, hy, hy']
    cases y with
    | x0 a b c =>
      cases y' with
      | x0 a' b' c' =>
        obtain ⟨rfl, rfl, hlen⟩ := hv
        exact ⟨rfl, rfl, rfl, rfl, rfl, hlen⟩
  · have hz : (w24_0 da db cs != 0) = true := by simpa using h0
    unfold g26 g27 w26_0 w26_1 w26_2 w27_0 w27_1 w27_2 t26 t27
    rw [c1, c2, c3, hz]
    exact ⟨rfl, rfl, rfl, rfl, rfl, Nat.zero_le _⟩
theorem bounds_law (da db : Int) (cs ws : List (List AV)) : g5 da db cs ws = true ∧ w5_0 da db cs ws = true := by
  unfold g5 w5_0 t5
  rw [(wide_val da db cs).1]
  cases w21_0 da db cs with
  | true => exact ⟨rfl, rfl⟩
  | false =>
  cases h : decide ((ws.length : Int) > 30) with
  | true => exact ⟨rfl, rfl⟩
  | false =>
  have hw : ws.length ≤ 30 := by have := of_decide_eq_false h; omega
  obtain ⟨b1, b2, b3, b4⟩ := boundE_eq da db cs ws hw
  obtain ⟨c1, c2, c3, _⟩ := rods_eq da db cs
  obtain ⟨l1, l2, l3, l4, l5, l6⟩ := lower_eq da db cs
  obtain ⟨s1, s2⟩ := same_refl (xs := w26_1 da db cs) (by omega)
  have e3 : ∀ b : Int, (b != b) = false := by simp
  have e4 : ∀ b : Int, (b == b) = true := by simp
  rw [b1, b2, b3, b4, c1, c2, c3, e3, e3, e3, l1, l2, l3, l4, l5, s1, s2, e4, e4]
  exact ⟨rfl, rfl⟩
/-- Rods that are handed in. -/
theorem rods_of {a : AV} (h : TyArg Try.prog 35 a) : ∃ da db cs, a = .agg [.i .i64 da, .i .i64 db, .rs 64 cs] := by
  obtain ⟨bs, rfl, hw⟩ := ty_agg (c := [.int .i64, .int .i64, .sl 64]) (by kernel_rfl) (by kernel_rfl) h
  obtain ⟨b0, q0, rfl, w0, hw⟩ := WTs_cons hw
  obtain ⟨b1, q1, rfl, w1, hw⟩ := WTs_cons hw
  obtain ⟨b3, q3, rfl, w3, hw⟩ := WTs_cons hw
  obtain rfl := WTs_nil hw
  obtain ⟨ra, rfl, r1⟩ := WT_int w0
  obtain ⟨rb, rfl, r2⟩ := WT_int w1
  obtain ⟨ps, rfl, _⟩ := WT_sl w3
  exact ⟨ra, rb, ps, rfl⟩
theorem ridgeBounds_law (avs : List AV) (h : TyArgs Try.prog Try.f5.params.toList avs) : Con Try.prog 5 avs [] (.b true) [] := by
  obtain ⟨a0, r0, rfl, h0, h⟩ := tyArgs_cons h
  obtain ⟨a1, r1, rfl, h1, h⟩ := tyArgs_cons h
  obtain rfl := tyArgs_nil h
  obtain ⟨da, db, cs, rfl⟩ := rods_of h0
  obtain ⟨ws, rfl, _⟩ := ints_of h1
  obtain ⟨h1, h2⟩ := bounds_law da db cs ws
  have := con5 da db cs ws h1
  rw [h2] at this
  exact this
end Go.Proofs.Ytgifjphinkbcaaa
