/-
  The law RidgeWays of the roofer's ridges answers true whatever Ridge it is handed; no conditions.
-/
import Derived.Test.YtgifjphinkbcaaaTf
import Derived.Test.YtgifjphinkbcaaaTd
import Derived.Test.YtgifjphinkbcaaaTe
set_option linter.unusedVariables false
set_option maxRecDepth 100000
set_option linter.unusedVariables false
namespace Go.Proofs.Ytgifjphinkbcaaa
open Go Go.Ev
/-! ### RidgeWays -/
theorem half_nat (n : Nat) : ((n : Int).tmod 2 == 0) = decide (n % 2 = 0) ∧ IntKind.i64.wrap ((n : Int).tdiv 2) = IntKind.i64.wrap ((n / 2 : Nat) : Int) := by
  rw [Int.tmod_eq_emod_of_nonneg (by omega), Int.tdiv_eq_ediv_of_nonneg (by omega)]
  refine ⟨?_, ?_⟩
  · rw [Bool.eq_iff_iff, beq_iff_eq, decide_eq_true_eq]
    omega
  · congr 1
theorem tw_small {ps : PS} (hps : okPs ps) {c n h : Nat} (hs : cnt ps c n h ≤ 1000000000000000) : tw ps c n h = cnt ps c n h := by
  rw [cnt_tw hps, bmin_le] at hs ⊢
  unfold cap at *
  split at hs
  · rename_i hc
    rw [if_pos hc]
  · omega
/-- Of all widths and ends there are as many as the table says, where they are few. -/
theorem halves_val {ps : PS} {ra : Int} {rc : Int} {n b p : Nat} (hps : okPs ps) (hn : n ≤ 2000) (hb : b < 10) (hp : p < 10) (hx : ts ps b n p ≤ 1000000000000000) : g70 ra (b : Int) rc ps (n : Int) (p : Int) = true ∧ w70_0 ra (b : Int) rc ps (n : Int) (p : Int) = ts ps b n p := by
  obtain ⟨d1, d2⟩ := table_val (rb := (b : Int)) hps hn hp
  have o3 := tab_toI (ps := ps) (c := p) (N := n) (n := n) (h := b) (Nat.le_refl _) hb
  have cb := cts91 hb
  simp only [Int.toNat_natCast, Nat.zero_add, Nat.mul_one] at cb
  have ib : inb (b : Int) 10 = true := by simp [inb_nat, hb]
  have i0 : inb (n : Int) (n + 1) = true := by simp [inb_nat]
  have e : cnt ps p n b = ts ps b n p := by
    rw [cnt_tw hps, tw_ts, bmin_le, if_pos (by unfold cap; omega)]
  unfold g70 w70_0 t70
  simp only [d1, d2, tab_len, ib, i0, cb, Int.toNat_natCast, Nat.zero_add, Nat.mul_one, o3, e]
  exact ⟨rfl, rfl⟩
noncomputable def ev1 (ps : PS) (b L : Nat) : Int := if L % 2 = 0 then sumTo (fun p => ts ps b (L / 2) p) 10 else 0
noncomputable def evT (ps : PS) (b L i : Nat) : Int := if mi ps i = i ∧ wd ps i ≤ L ∧ (L - wd ps i) % 2 = 0 then ts ps b ((L - wd ps i) / 2) (lf ps i) else 0
theorem evT_bd {ps : PS} (hps : okPs ps) (hm : Mir ps) {b L : Nat} (hs : tw ps b L b ≤ 1000000000000000) {i : Nat} (hi : i < ps.length) : 0 ≤ evT ps b L i ∧ evT ps b L i ≤ 1000000000000000 := by
  unfold evT
  split
  · rename_i hc
    refine ⟨ts_nonneg _ _ _ _, ?_⟩
    have := half_le2 hps hm (h := b) (n := (L - wd ps i) / 2) hi hc.1
    rw [show (L - wd ps i) / 2 + ((L - wd ps i) / 2 + wd ps i) = L by omega] at this
    omega
  · omega
theorem half_bd {ps : PS} (hps : okPs ps) (hm : Mir ps) {b L p : Nat} (hs : tw ps b L b ≤ 1000000000000000) (hL : L % 2 = 0) : 0 ≤ ts ps b (L / 2) p ∧ ts ps b (L / 2) p ≤ 1000000000000000 := by
  refine ⟨ts_nonneg _ _ _ _, ?_⟩
  have := half_le hps hm (h := b) (n := L / 2) (p := p)
  rw [show L / 2 + L / 2 = L by omega] at this
  omega
theorem sum_bd {f : Nat → Int} {B : Int} : ∀ {k : Nat}, (∀ j, j < k → 0 ≤ f j ∧ f j ≤ B) → 0 ≤ sumTo f k ∧ sumTo f k ≤ B * k
  | 0, _ => by simp [sumTo]
  | k + 1, h => by
    have h1 := sum_bd (k := k) (fun j hj => h j (by omega))
    have h2 := h k (by omega)
    have e : B * ((k + 1 : Nat) : Int) = B * (k : Int) + B := by
      rw [Int.natCast_add, Int.mul_add]
      simp
    rw [e]
    show 0 ≤ sumTo f k + f k ∧ sumTo f k + f k ≤ _
    omega
section
variable {ps : PS} {b L : Nat}
theorem even1 (hps : okPs ps) (hm : Mir ps) (hL : L ≤ 2000) (hb : b < 10) (hs : tw ps b L b ≤ 1000000000000000) : ∃ a m, r37a (L : Int) (b : Int) (b : Int) ps 0 0 (L : Int) (b : Int) (b : Int) ps 0 0 [] = some (.x0 (ev1 ps b L) a m) ∧ MOK ps b m := by
  obtain ⟨h1, h2⟩ := half_nat L
  have hm0 : MOK ps b [] := fun n c v hv => by cases hv
  by_cases hL2 : L % 2 = 0
  · rw [decide_eq_true hL2] at h1
    have run : ∃ y, r37a (L : Int) (b : Int) (b : Int) ps 0 0 (L : Int) (b : Int) (b : Int) ps 0 ((0 : Nat) : Int) [] = some y ∧ ∃ a m, y = .x0 (ev1 ps b L) a m ∧ MOK ps b m := by
      unfold r37a
      refine run_for (S := Mp) 10 (fun k s => (⟨sumTo (fun p => ts ps b (L / 2) p) k, (k : Int), s⟩ : S37a)) (fun _ s => MOK ps b s) (fun _ _ (y : T37a) => ∃ a m, y = .x0 (ev1 ps b L) a m ∧ MOK ps b m) (fun k s hk hs' => ?_) (fun s hs' => ?_) 0 [] (Nat.zero_le _) hm0
      · left
        have hh := half_bd hps hm (p := k) hs hL2
        have hsum := sum_bd (f := fun p => ts ps b (L / 2) p) (k := k) (fun j _ => half_bd hps hm (p := j) hs hL2)
        obtain ⟨k1, k2, k3⟩ := lgE_ok (ps := ps) (h := b) (ra := (L : Int)) (rc := (b : Int)) hps (L / 2) k s (by omega) hk hh.2 hs'
        refine ⟨(LG.F (L : Int) (b : Int) (b : Int) ps (L : Int) (b : Int) (b : Int) ps ((L / 2 : Nat) : Int) (k : Int) s).2, ?_, k3, fun y hy => hy⟩
        show stp37a (L : Int) (b : Int) (b : Int) ps 0 0 (L : Int) (b : Int) (b : Int) ps (sumTo (fun p => ts ps b (L / 2) p) k) (k : Int) s = _
        unfold stp37a
        have d : decide ((k : Int) ≤ 9) = true := decide_eq_true (by omega)
        rw [h1, h2, d, wrap64 (x := ((L / 2 : Nat) : Int)) (by omega) (by omega), k1, k2, wrap64 (x := sumTo (fun p => ts ps b (L / 2) p) k + ts ps b (L / 2) k) (by omega) (by omega), wrap_succ (by omega)]
        rfl
      · refine ⟨.x0 (ev1 ps b L) 10 s, ?_, 10, s, rfl, hs'⟩
        show stp37a (L : Int) (b : Int) (b : Int) ps 0 0 (L : Int) (b : Int) (b : Int) ps (sumTo (fun p => ts ps b (L / 2) p) 10) 10 s = _
        unfold stp37a ev1
        rw [if_pos hL2]
        rfl
    obtain ⟨y, h3, a, m, h4, h5⟩ := run
    exact ⟨a, m, by rw [← h4]; exact h3, h5⟩
  · rw [decide_eq_false hL2] at h1
    refine ⟨0, [], ?_, hm0⟩
    unfold r37a
    refine run_out ?_
    show stp37a (L : Int) (b : Int) (b : Int) ps 0 0 (L : Int) (b : Int) (b : Int) ps 0 0 [] = _
    unfold stp37a ev1
    rw [h1, if_neg hL2]
    rfl
theorem reven1 (hps : okPs ps) (hm : Mir ps) (hL : L ≤ 2000) (hb : b < 10) (hs : tw ps b L b ≤ 1000000000000000) : ∃ a, r38a (L : Int) (b : Int) (b : Int) ps 0 0 0 0 = some (.x0 (ev1 ps b L) a) := by
  obtain ⟨h1, h2⟩ := half_nat L
  by_cases hL2 : L % 2 = 0
  · rw [decide_eq_true hL2] at h1
    have run : ∃ y, r38a (L : Int) (b : Int) (b : Int) ps 0 0 0 ((0 : Nat) : Int) = some y ∧ ∃ a, y = .x0 (ev1 ps b L) a := by
      unfold r38a
      refine run_for (S := Unit) 10 (fun k _ => (⟨sumTo (fun p => ts ps b (L / 2) p) k, (k : Int)⟩ : S38a)) (fun _ _ => True) (fun _ _ (y : T38a) => ∃ a, y = .x0 (ev1 ps b L) a) (fun k s hk hs' => ?_) (fun s hs' => ?_) 0 () (Nat.zero_le _) trivial
      · left
        have hh := half_bd hps hm (p := k) hs hL2
        have hsum := sum_bd (f := fun p => ts ps b (L / 2) p) (k := k) (fun j _ => half_bd hps hm (p := j) hs hL2)
        obtain ⟨k1, k2⟩ := halves_val (ra := (L : Int)) (rc := (b : Int)) (n := L / 2) (p := k) hps (by omega) hb hk hh.2
        refine ⟨(), ?_, trivial, fun y hy => hy⟩
        show stp38a (L : Int) (b : Int) (b : Int) ps 0 0 (sumTo (fun p => ts ps b (L / 2) p) k) (k : Int) = _
        unfold stp38a
        have d : decide ((k : Int) ≤ 9) = true := decide_eq_true (by omega)
        rw [h1, h2, d, wrap64 (x := ((L / 2 : Nat) : Int)) (by omega) (by omega), k1, k2, wrap64 (x := sumTo (fun p => ts ps b (L / 2) p) k + ts ps b (L / 2) k) (by omega) (by omega), wrap_succ (by omega)]
        rfl
      · refine ⟨.x0 (ev1 ps b L) 10, ?_, 10, rfl⟩
        show stp38a (L : Int) (b : Int) (b : Int) ps 0 0 (sumTo (fun p => ts ps b (L / 2) p) 10) 10 = _
        unfold stp38a ev1
        rw [if_pos hL2]
        rfl
    obtain ⟨y, h3, a, h4⟩ := run
    exact ⟨a, by rw [← h4]; exact h3⟩
  · rw [decide_eq_false hL2] at h1
    refine ⟨0, ?_⟩
    unfold r38a
    refine run_out ?_
    show stp38a (L : Int) (b : Int) (b : Int) ps 0 0 0 0 = _
    unfold stp38a ev1
    rw [h1, if_neg hL2]
    rfl
theorem ev1_bd (hps : okPs ps) (hm : Mir ps) (hs : tw ps b L b ≤ 1000000000000000) : 0 ≤ ev1 ps b L ∧ ev1 ps b L ≤ 10000000000000000 := by
  unfold ev1
  split
  · rename_i hL2
    have := sum_bd (f := fun p => ts ps b (L / 2) p) (k := 10) (fun j _ => half_bd hps hm (p := j) hs hL2)
    omega
  · omega
theorem mi_beq (hps : okPs ps) (hm : Mir ps) {k : Nat} (hk : k < ps.length) : (fI (ps.getD k []) 4 == (k : Int)) = decide (mi ps k = k) := by
  rw [(mi_ok hps hm hk).1, Bool.eq_iff_iff, beq_iff_eq, decide_eq_true_eq]
  omega
theorem even2 (hps : okPs ps) (hm : Mir ps) (hL : L ≤ 2000) (hb : b < 10) (hs : tw ps b L b ≤ 1000000000000000) {m : Mp} (hm0 : MOK ps b m) : ∃ a m', r37b (L : Int) (b : Int) (b : Int) ps 0 0 ps (ps.length : Int) (L : Int) (b : Int) (b : Int) ps (ev1 ps b L) 0 m = some (.x0 (ev1 ps b L + sumTo (evT ps b L) ps.length) a m') := by
  have hl := hps.1
  have h1b := ev1_bd hps hm hs
  have run : ∃ y, r37b (L : Int) (b : Int) (b : Int) ps 0 0 ps (ps.length : Int) (L : Int) (b : Int) (b : Int) ps (ev1 ps b L + sumTo (evT ps b L) 0) ((0 : Nat) : Int) m = some y ∧ ∃ a m', y = .x0 (ev1 ps b L + sumTo (evT ps b L) ps.length) a m' := by
    unfold r37b
    refine run_for (S := Mp) ps.length (fun k s => (⟨ev1 ps b L + sumTo (evT ps b L) k, (k : Int), s⟩ : S37b)) (fun _ s => MOK ps b s) (fun _ _ (y : T37b) => ∃ a m', y = .x0 (ev1 ps b L + sumTo (evT ps b L) ps.length) a m') (fun k s hk hs' => ?_) (fun s hs' => ?_) 0 m (Nat.zero_le _) hm0
    · left
      obtain ⟨p1, p2, p3, p4, p5, p6, p7⟩ := pc_nat hps hk
      have hsum := sum_bd (f := evT ps b L) (k := k) (fun j hj => evT_bd hps hm hs (by omega))
      have hT := evT_bd hps hm hs hk
      have hsucc : sumTo (evT ps b L) (k + 1) = sumTo (evT ps b L) k + evT ps b L k := rfl
      have ew : IntKind.i64.wrap ((L : Int) - (wd ps k : Int)) = (L : Int) - (wd ps k : Int) := wrap64 (by omega) (by omega)
      show ∃ s', stp37b (L : Int) (b : Int) (b : Int) ps 0 0 ps (ps.length : Int) (L : Int) (b : Int) (b : Int) ps (ev1 ps b L + sumTo (evT ps b L) k) (k : Int) s = _ ∧ _
      unfold stp37b
      rw [Int.toNat_natCast, lt_true hk, inb_true hk, mi_beq hps hm hk, p1, p2, ew, wrap_succ (by omega)]
      by_cases c1 : mi ps k = k
      · rw [decide_eq_true c1]
        by_cases c2 : wd ps k ≤ L
        · have d2 : decide ((L : Int) - (wd ps k : Int) ≥ 0) = true := decide_eq_true (by omega)
          have e2 : (L : Int) - (wd ps k : Int) = ((L - wd ps k : Nat) : Int) := by omega
          obtain ⟨h1, h2⟩ := half_nat (L - wd ps k)
          rw [d2, e2, h1, h2]
          by_cases c3 : (L - wd ps k) % 2 = 0
          · rw [decide_eq_true c3]
            have hv : evT ps b L k = ts ps b ((L - wd ps k) / 2) (lf ps k) := if_pos ⟨c1, c2, c3⟩
            rw [hv] at hT hsucc
            obtain ⟨k1, k2, k3⟩ := lgE_ok (ps := ps) (h := b) (ra := (L : Int)) (rc := (b : Int)) hps ((L - wd ps k) / 2) (lf ps k) s (by omega) p6 hT.2 hs'
            refine ⟨(LG.F (L : Int) (b : Int) (b : Int) ps (L : Int) (b : Int) (b : Int) ps (((L - wd ps k) / 2 : Nat) : Int) (lf ps k : Int) s).2, ?_, k3, fun y hy => hy⟩
            rw [wrap64 (x := (((L - wd ps k) / 2 : Nat) : Int)) (by omega) (by omega), k1, k2, wrap64 (x := ev1 ps b L + sumTo (evT ps b L) k + ts ps b ((L - wd ps k) / 2) (lf ps k)) (by omega) (by omega), hsucc, Int.add_assoc]
            rfl
          · rw [decide_eq_false c3]
            have hv : evT ps b L k = 0 := if_neg (fun h => c3 h.2.2)
            refine ⟨s, ?_, hs', fun y hy => hy⟩
            rw [hsucc, hv, Int.add_zero]
            rfl
        · have d2 : decide ((L : Int) - (wd ps k : Int) ≥ 0) = false := decide_eq_false (by omega)
          have hv : evT ps b L k = 0 := if_neg (fun h => c2 h.2.1)
          rw [d2]
          refine ⟨s, ?_, hs', fun y hy => hy⟩
          rw [hsucc, hv, Int.add_zero]
          rfl
      · rw [decide_eq_false c1]
        have hv : evT ps b L k = 0 := if_neg (fun h => c1 h.1)
        refine ⟨s, ?_, hs', fun y hy => hy⟩
        rw [hsucc, hv, Int.add_zero]
        rfl
    · refine ⟨.x0 (ev1 ps b L + sumTo (evT ps b L) ps.length) (ps.length : Int) s, ?_, (ps.length : Int), s, rfl⟩
      show stp37b (L : Int) (b : Int) (b : Int) ps 0 0 ps (ps.length : Int) (L : Int) (b : Int) (b : Int) ps (ev1 ps b L + sumTo (evT ps b L) ps.length) (ps.length : Int) s = _
      unfold stp37b
      rw [lt_false]; rfl
  obtain ⟨y, h3, a, m', h4⟩ := run
  refine ⟨a, m', ?_⟩
  rw [← h4, ← h3]
  have : ev1 ps b L + sumTo (evT ps b L) 0 = ev1 ps b L := Int.add_zero _
  rw [this]
  rfl
theorem reven2 (hps : okPs ps) (hm : Mir ps) (hL : L ≤ 2000) (hb : b < 10) (hs : tw ps b L b ≤ 1000000000000000) : ∃ a, r38b (L : Int) (b : Int) (b : Int) ps 0 0 (ev1 ps b L) 0 = some (.x0 (ev1 ps b L + sumTo (evT ps b L) ps.length) a) := by
  have hl := hps.1
  have h1b := ev1_bd hps hm hs
  have run : ∃ y, r38b (L : Int) (b : Int) (b : Int) ps 0 0 (ev1 ps b L + sumTo (evT ps b L) 0) ((0 : Nat) : Int) = some y ∧ ∃ a, y = .x0 (ev1 ps b L + sumTo (evT ps b L) ps.length) a := by
    unfold r38b
    refine run_for (S := Unit) ps.length (fun k _ => (⟨ev1 ps b L + sumTo (evT ps b L) k, (k : Int)⟩ : S38b)) (fun _ _ => True) (fun _ _ (y : T38b) => ∃ a, y = .x0 (ev1 ps b L + sumTo (evT ps b L) ps.length) a) (fun k s hk hs' => ?_) (fun s hs' => ?_) 0 () (Nat.zero_le _) trivial
    · left
      obtain ⟨p1, p2, p3, p4, p5, p6, p7⟩ := pc_nat hps hk
      have hsum := sum_bd (f := evT ps b L) (k := k) (fun j hj => evT_bd hps hm hs (by omega))
      have hT := evT_bd hps hm hs hk
      have hsucc : sumTo (evT ps b L) (k + 1) = sumTo (evT ps b L) k + evT ps b L k := rfl
      have ew : IntKind.i64.wrap ((L : Int) - (wd ps k : Int)) = (L : Int) - (wd ps k : Int) := wrap64 (by omega) (by omega)
      refine ⟨(), ?_, trivial, fun y hy => hy⟩
      show stp38b (L : Int) (b : Int) (b : Int) ps 0 0 (ev1 ps b L + sumTo (evT ps b L) k) (k : Int) = .go ⟨ev1 ps b L + sumTo (evT ps b L) (k + 1), ((k + 1 : Nat) : Int)⟩
      unfold stp38b
      rw [Int.toNat_natCast, lt_true hk, inb_true hk, mi_beq hps hm hk, p1, p2, ew, wrap_succ (by omega)]
      by_cases c1 : mi ps k = k
      · rw [decide_eq_true c1]
        by_cases c2 : wd ps k ≤ L
        · have d2 : decide ((wd ps k : Int) ≤ (L : Int)) = true := decide_eq_true (by omega)
          have e2 : (L : Int) - (wd ps k : Int) = ((L - wd ps k : Nat) : Int) := by omega
          obtain ⟨h1, h2⟩ := half_nat (L - wd ps k)
          rw [d2, e2, h1, h2]
          by_cases c3 : (L - wd ps k) % 2 = 0
          · rw [decide_eq_true c3]
            have hv : evT ps b L k = ts ps b ((L - wd ps k) / 2) (lf ps k) := if_pos ⟨c1, c2, c3⟩
            rw [hv] at hT hsucc
            obtain ⟨k1, k2⟩ := halves_val (ra := (L : Int)) (rc := (b : Int)) (n := (L - wd ps k) / 2) (p := lf ps k) hps (by omega) hb p6 hT.2
            rw [wrap64 (x := (((L - wd ps k) / 2 : Nat) : Int)) (by omega) (by omega), k1, k2, wrap64 (x := ev1 ps b L + sumTo (evT ps b L) k + ts ps b ((L - wd ps k) / 2) (lf ps k)) (by omega) (by omega), hsucc, Int.add_assoc]
            rfl
          · rw [decide_eq_false c3]
            have hv : evT ps b L k = 0 := if_neg (fun h => c3 h.2.2)
            rw [hsucc, hv, Int.add_zero]
            rfl
        · have d2 : decide ((wd ps k : Int) ≤ (L : Int)) = false := decide_eq_false (by omega)
          have hv : evT ps b L k = 0 := if_neg (fun h => c2 h.2.1)
          rw [d2, hsucc, hv, Int.add_zero]
          rfl
      · rw [decide_eq_false c1]
        have hv : evT ps b L k = 0 := if_neg (fun h => c1 h.1)
        rw [hsucc, hv, Int.add_zero]
        rfl
    · refine ⟨.x0 (ev1 ps b L + sumTo (evT ps b L) ps.length) (ps.length : Int), ?_, (ps.length : Int), rfl⟩
      show stp38b (L : Int) (b : Int) (b : Int) ps 0 0 (ev1 ps b L + sumTo (evT ps b L) ps.length) (ps.length : Int) = _
      unfold stp38b
      rw [lt_false]; rfl
  obtain ⟨y, h3, a, h4⟩ := run
  refine ⟨a, ?_⟩
  rw [← h4, ← h3]
  have : ev1 ps b L + sumTo (evT ps b L) 0 = ev1 ps b L := Int.add_zero _
  rw [this]
  rfl
end
/-- Even, and the reference's. -/
theorem even_val {ps : PS} {n b : Nat} (hF : Fine (n : Int) (b : Int) (b : Int) ps) (hn : n ≤ 2000) (hb : b < 10) (h0 : w29_0 (n : Int) (b : Int) (b : Int) ps = 0) (hs : cnt ps b n b ≤ 1000000000000000) :
    (g37 (n : Int) (b : Int) (b : Int) ps = true ∧ w37_1 (n : Int) (b : Int) (b : Int) ps = 0 ∧ w37_0 (n : Int) (b : Int) (b : Int) ps = ev1 ps b n + sumTo (evT ps b n) ps.length) ∧
    g38 (n : Int) (b : Int) (b : Int) ps = true ∧ w38_1 (n : Int) (b : Int) (b : Int) ps = 0 ∧ w38_0 (n : Int) (b : Int) (b : Int) ps = ev1 ps b n + sumTo (evT ps b n) ps.length := by
  have hps := hF.ps
  have hm : Mir ps := (check_eq (n : Int) (b : Int) (b : Int) ps).2.2 h0
  have htw : tw ps b n b ≤ 1000000000000000 := by rw [tw_small hps hs]; exact hs
  obtain ⟨g1, g2, g3⟩ := counted_val hps hn hb hb h0
  rcases g3 with ⟨h1, _⟩ | ⟨_, h1, h2, h3, h4⟩
  · omega
  obtain ⟨a, m, q1, q2⟩ := even1 hps hm hn hb htw
  obtain ⟨a2, m2, q3⟩ := even2 hps hm hn hb htw q2
  obtain ⟨a3, q4⟩ := reven1 hps hm hn hb htw
  obtain ⟨a4, q5⟩ := reven2 hps hm hn hb htw
  have z1 : ((0 : Int) != 0) = false := by decide
  have z2 : ((b : Int) != (b : Int)) = false := by simp
  refine ⟨?_, ?_⟩
  · unfold g37 w37_1 w37_0 t37 i37a_0 i37b_0 v37a_0_t8 v37a_0_m17 v37b_0_t8
    rw [g1, h1, z1, z2, q1]
    simp only
    rw [q3]
    exact ⟨rfl, rfl, rfl⟩
  · unfold g38 w38_1 w38_0 t38 i38a_0 i38b_0 v38a_0_t6 v38b_0_t6
    rw [g2, h3, z1, z2, q4]
    simp only
    rw [q5]
    exact ⟨rfl, rfl, rfl⟩
theorem even_same (ra rb rc : Int) (ps : PS) : g37 ra rb rc ps = true ∧ g38 ra rb rc ps = true ∧ w38_0 ra rb rc ps = w37_0 ra rb rc ps ∧ w38_1 ra rb rc ps = w37_1 ra rb rc ps := by
  by_cases h0 : w29_0 ra rb rc ps = 0
  · have hF := fine_of h0
    obtain ⟨n, b, c, rfl, rfl, rfl, hn, hb, hc⟩ := fine_nat hF
    obtain ⟨g1, g2, g3⟩ := counted_val hF.ps hn hb hc h0
    rcases g3 with ⟨h1, h2, h3⟩ | ⟨hs, h1, h2, h3, h4⟩
    · have z1 : ((3 : Int) != 0) = true := by decide
      unfold g37 g38 w37_0 w37_1 w38_0 w38_1 t37 t38
      rw [g1, g2, h2, h3, z1]
      exact ⟨rfl, rfl, rfl, rfl⟩
    · by_cases hbc : b = c
      · subst hbc
        obtain ⟨⟨a1, a2, a3⟩, a4, a5, a6⟩ := even_val hF hn hb h0 hs
        exact ⟨a1, a4, a6.trans a3.symm, a5.trans a2.symm⟩
      · have z1 : ((0 : Int) != 0) = false := by decide
        have z2 : ((b : Int) != (c : Int)) = true := by rw [bne_iff_ne]; omega
        unfold g37 g38 w37_0 w37_1 w38_0 w38_1 t37 t38
        rw [g1, g2, h1, h3, z1, z2]
        exact ⟨rfl, rfl, rfl, rfl⟩
  · obtain ⟨⟨c1, c2⟩, c3, c4⟩ := counted_err h0
    have hz : (w29_0 ra rb rc ps != 0) = true := by simpa using h0
    unfold g37 g38 w37_0 w37_1 w38_0 w38_1 t37 t38
    rw [c1, c2, c3, c4, hz]
    exact ⟨rfl, rfl, rfl, rfl⟩
theorem ways_same (ra rb rc : Int) (ps : PS) : g20 ra rb rc ps = true ∧ g36 ra rb rc ps = true ∧ w36_0 ra rb rc ps = w20_0 ra rb rc ps ∧ w36_1 ra rb rc ps = w20_1 ra rb rc ps := by
  by_cases h0 : w29_0 ra rb rc ps = 0
  · have hF := fine_of h0
    obtain ⟨n, b, c, rfl, rfl, rfl, hn, hb, hc⟩ := fine_nat hF
    obtain ⟨g1, g2, g3⟩ := counted_val hF.ps hn hb hc h0
    obtain ⟨v1, v2⟩ := ways_nat hF.ps hn hb hc h0
    rcases g3 with ⟨h1, h2, h3⟩ | ⟨hs, h1, h2, h3, h4⟩
    · rcases v2 with ⟨_, v2, v3⟩ | ⟨hs, v2, v3⟩
      · have z1 : ((3 : Int) != 0) = true := by decide
        unfold g36 w36_0 w36_1 t36
        rw [v1, v2, v3, g2, h3, z1]
        exact ⟨rfl, rfl, rfl, rfl⟩
      · omega
    · rcases v2 with ⟨hx, v2, v3⟩ | ⟨_, v2, v3⟩
      · omega
      · have z1 : ((0 : Int) != 0) = false := by decide
        have o3 := tab_toI (ps := ps) (c := c) (N := n) (n := n) (h := b) (Nat.le_refl _) hb
        have cb := cts91 hb
        simp only [Int.toNat_natCast, Nat.zero_add, Nat.mul_one] at cb
        have ib : inb (b : Int) 10 = true := by simp [inb_nat, hb]
        have i0 : inb (n : Int) (n + 1) = true := by simp [inb_nat]
        unfold g36 w36_0 w36_1 t36
        simp only [v1, v2, v3, g2, h3, h4, z1, tab_len, ib, i0, cb, Int.toNat_natCast, Nat.zero_add, Nat.mul_one, o3]
        exact ⟨trivial, rfl, rfl, rfl⟩
  · obtain ⟨⟨c1, c2⟩, c3, c4⟩ := counted_err h0
    have hz : (w29_0 ra rb rc ps != 0) = true := by simpa using h0
    unfold g20 w20_0 w20_1 t20 g36 w36_0 w36_1 t36
    rw [c1, c2, c3, c4, hz]
    exact ⟨rfl, rfl, rfl, rfl⟩
end Go.Proofs.Ytgifjphinkbcaaa

set_option maxRecDepth 100000
set_option linter.unusedVariables false
namespace Go.Proofs.Ytgifjphinkbcaaa
open Go Go.Ev
noncomputable def SW : Ev.Spec := insS 38 e38 (insS 37 e37 (insS 36 e36 (insS 20 e20 (insS 19 e19 (insS 18 e18 S0)))))
theorem SW_ok : SpecOK Try.prog SW := insS_ok e38_ok (insS_ok e37_ok (insS_ok e36_ok (insS_ok e20_ok (insS_ok e19_ok (insS_ok e18_ok S0_ok)))))
end Go.Proofs.Ytgifjphinkbcaaa

set_option maxRecDepth 100000
set_option maxHeartbeats 1000000
set_option linter.unusedVariables false
namespace Go.Proofs.Ytgifjphinkbcaaa
open Go Go.Ev

/-! ### RidgeWays -/
noncomputable def c8 : Code := match Try.f8.body with | some c => c | _ => .skip
theorem lok8 : LOK Try.prog SW (ro 8) (fun _ _ => none) 0 false c8 [] :=
  lok_lo (fun _ _ _ _ _ _ _ h _ => by cases h) c8 [] false (locate_nil _) (by kernel_rfl)
noncomputable def t8 (ra rb rc : Int) (ps : List (List AV)) : Tr ((Bool)) :=
  .cn (g18 ra rb rc ps) (.cn (w18_0 ra rb rc ps) (.lf (true)) (.cn (g20 ra rb rc ps) (.cn (g36 ra rb rc ps) (.cn (w20_0 ra rb rc ps != w36_0 ra rb rc ps) (.lf (false)) (.cn (w20_1 ra rb rc ps != w36_1 ra rb rc ps) (.lf (false)) (.cn (g37 ra rb rc ps) (.cn (g38 ra rb rc ps) (.cn (w37_0 ra rb rc ps == w38_0 ra rb rc ps) (.cn (w37_1 ra rb rc ps == w38_1 ra rb rc ps) (.lf (true)) (.lf (false))) (.lf (false))) (.nn)) (.nn)))) (.nn)) (.nn))) (.nn)
noncomputable def g8 (ra rb rc : Int) (ps : List (List AV)) : Bool := (t8 ra rb rc ps).g
noncomputable def w8_0 (ra rb rc : Int) (ps : List (List AV)) : Bool := (t8 ra rb rc ps).val
theorem eq8 (ra rb rc : Int) (ps : List (List AV)) : evF Try.prog SW (ro 8) (fun _ _ => none) Try.f8 [.agg [.i .i64 ra, .i .i64 rb, .i .i64 rc, .rs 31 ps]] = (t8 ra rb rc ps).opt (fun (x : (Bool)) => (.b x : AV)) := by kernel_rfl
theorem con8 (ra rb rc : Int) (ps : List (List AV)) (h : g8 ra rb rc ps = true) : Con Try.prog 8 [.agg [.i .i64 ra, .i .i64 rb, .i .i64 rc, .rs 31 ps]] [] (.b (w8_0 ra rb rc ps)) [] :=
  con_of SW_ok mixed Try.func8 (c := c8) rfl (names 8 _ Try.func8) lok8 ((eq8 ra rb rc ps).trans (Tr.sound _ _ h))
noncomputable def e8 (args : List AV) (rows : List Blk) : Option (Bool × AV × List Blk) := match args, rows with
  | [.agg [.i .i64 ra, .i .i64 rb, .i .i64 rc, .rs 31 ps]], [] => some (g8 ra rb rc ps, .b (w8_0 ra rb rc ps), [])
  | _, _ => none
theorem e8_ok (args : List AV) (rows : List Blk) (pre : Bool) (v : AV) (rows' : List Blk) (h : e8 args rows = some (pre, v, rows')) (hp : pre = true) : Con Try.prog 8 args rows v rows' := by
  unfold e8 at h
  split at h
  · cases h; exact con8 _ _ _ _ hp
  · cases h
-- SPEC 8
end Go.Proofs.Ytgifjphinkbcaaa

set_option maxRecDepth 100000
set_option linter.unusedVariables false
namespace Go.Proofs.Ytgifjphinkbcaaa
open Go Go.Ev
theorem ridgeWays_true (ra rb rc : Int) (ps : PS) : g8 ra rb rc ps = true ∧ w8_0 ra rb rc ps = true := by
  obtain ⟨a1, a2, a3, a4⟩ := ways_same ra rb rc ps
  obtain ⟨b1, b2, b3, b4⟩ := even_same ra rb rc ps
  have e3 : ∀ b : Int, (b != b) = false := by simp
  have e4 : ∀ b : Int, (b == b) = true := by simp
  unfold g8 w8_0 t8
  rw [g18_true]
  cases w18_0 ra rb rc ps with
  | true => exact ⟨rfl, rfl⟩
  | false =>
    rw [a1, a2, a3, a4, b1, b2, b3, b4, e3, e3, e4, e4]
    exact ⟨rfl, rfl⟩
theorem ridgeWays_law (avs : List AV) (h : TyArgs Try.prog Try.f8.params.toList avs) : Con Try.prog 8 avs [] (.b true) [] := by
  obtain ⟨a0, r0, rfl, h0, h⟩ := tyArgs_cons h
  obtain rfl := tyArgs_nil h
  obtain ⟨ra, rb, rc, ps, rfl, _⟩ := ridge_of h0
  obtain ⟨h1, h2⟩ := ridgeWays_true ra rb rc ps
  have := con8 ra rb rc ps h1
  rw [h2] at this
  exact this
end Go.Proofs.Ytgifjphinkbcaaa
