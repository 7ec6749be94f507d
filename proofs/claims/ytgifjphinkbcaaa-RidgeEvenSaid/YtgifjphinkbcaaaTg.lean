/-
  The law RidgeEven of the roofer's ridges answers true whatever Ridge it is handed; no conditions.
-/
import Derived.Test.YtgifjphinkbcaaaTf
import Derived.Test.YtgifjphinkbcaaaTd
import Derived.Test.YtgifjphinkbcaaaTe
set_option linter.unusedVariables false
set_option maxRecDepth 100000
set_option linter.unusedVariables false
namespace Go.Proofs.Ytgifjphinkbcaaa
open Go Go.Ev
/-! ### RidgeWays -/
theorem half_nat (n : Nat) : ((n : Int).tmod 2 == 0) = decide (n % 2 = 0) ∧ IntKind.i64.wrap ((n : Int).tdiv 2) = IntKind.i64.wrap ((n / 2 : Nat) : Int) := by
  rw [Int.tmod_eq_emod_of_nonneg (by omega), Int.tdiv_eq_ediv_of_nonneg (by omega)]
  refine ⟨?_, ?_⟩
  · rw [Bool.eq_iff_iff, beq_iff_eq, decide_eq_true_eq]
    omega
  · congr 1
theorem tw_small {ps : PS} (hps : okPs ps) {c n h : Nat} (hs : cnt ps c n h ≤ 1000000000000000) : tw ps c n h = cnt ps c n h := by
  rw [cnt_tw hps, bmin_le] at hs ⊢
  unfold cap at *
  split at hs
  · rename_i hc
    rw [if_pos hc]
  · omega
/-- Of all widths and ends there are as many as the table says, where they are few. -/
theorem halves_val {ps : PS} {ra : Int} {rc : Int} {n b p : Nat} (hps : okPs ps) (hn : n ≤ 2000) (hb : b < 10) (hp : p < 10) (hx : ts ps b n p ≤ 1000000000000000) : g70 ra (b : Int) rc ps (n : Int) (p : Int) = true ∧ w70_0 ra (b : Int) rc ps (n : Int) (p : Int) = ts ps b n p := by
  obtain ⟨d1, d2⟩ := table_val (rb := (b : Int)) hps hn hp
  have o3 := tab_toI (ps := ps) (c := p) (N := n) (n := n) (h := b) (Nat.le_refl _) hb
  have cb := cts91 hb
  simp only [Int.toNat_natCast, Nat.zero_add, Nat.mul_one] at cb
  have ib : inb (b : Int) 10 = true := by simp [inb_nat, hb]
  have i0 : inb (n : Int) (n + 1) = true := by simp [inb_nat]
  have e : cnt ps p n b = ts ps b n p := by
    rw [cnt_tw hps, tw_ts, bmin_le, if_pos (by unfold cap; omega)]
  unfold g70 w70_0 t70
  simp only [d1, d2, tab_len, ib, i0, cb, Int.toNat_natCast, Nat.zero_add, Nat.mul_one, o3, e]
  exact ⟨rfl, rfl⟩
noncomputable def ev1 (ps : PS) (b L : Nat) : Int := if L % 2 = 0 then sumTo (fun p => ts ps b (L / 2) p) 10 else 0
noncomputable def evT (ps : PS) (b L i : Nat) : Int := if mi ps i = i ∧ wd ps i ≤ L ∧ (L - wd ps i) % 2 = 0 then ts ps b ((L - wd ps i) / 2) (lf ps i) else 0
theorem evT_bd {ps : PS} (hps : okPs ps) (hm : Mir ps) {b L : Nat} (hs : tw ps b L b ≤ 1000000000000000) {i : Nat} (hi : i < ps.length) : 0 ≤ evT ps b L i ∧ evT ps b L i ≤ 1000000000000000 := by
  unfold evT
  split
  · rename_i hc
    refine ⟨ts_nonneg _ _ _ _, ?_⟩
    have := half_le2 hps hm (h := b) (n := (L - wd ps i) / 2) hi hc.1
    rw [show (L - wd ps i) / 2 + ((L - wd ps i) / 2 + wd ps i) = L by omega] at this
    omega
  · omega
theorem half_bd {ps : PS} (hps : okPs ps) (hm : Mir ps) {b L p : Nat} (hs : tw ps b L b ≤ 1000000000000000) (hL : L % 2 = 0) : 0 ≤ ts ps b (L / 2) p ∧ ts ps b (L / 2) p ≤ 1000000000000000 := by
  refine ⟨ts_nonneg _ _ _ _, ?_⟩
  have := half_le hps hm (h := b) (n := L / 2) (p := p)
  rw [show L / 2 + L / 2 = L by omega] at this
  omega
theorem sum_bd {f : Nat → Int} {B : Int} : ∀ {k : Nat}, (∀ j, j < k → 0 ≤ f j ∧ f j ≤ B) → 0 ≤ sumTo f k ∧ sumTo f k ≤ B * k
  | 0, _ => by simp [sumTo]
  | k + 1, h => by
    have h1 := sum_bd (k := k) (fun j hj => h j (by omega))
    have h2 := h k (by omega)
    have e : B * ((k + 1 : Nat) : Int) = B * (k : Int) + B := by
      rw [Int.natCast_add, Int.mul_add]
      simp
    rw [e]
    show 0 ≤ sumTo f k + f k ∧ sumTo f k + f k ≤ _
    omega
section
variable {ps : PS} {b L : Nat}
theorem even1 (hps : okPs ps) (hm : Mir ps) (hL : L ≤ 2000) (hb : b < 10) (hs : tw ps b L b ≤ 1000000000000000) : ∃ a m, r37a (L : Int) (b : Int) (b : Int) ps 0 0 (L : Int) (b : Int) (b : Int) ps 0 0 [] = some (.x0 (ev1 ps b L) a m) ∧ MOK ps b m := by
  obtain ⟨h1, h2⟩ := half_nat L
  have hm0 : MOK ps b [] := fun n c v hv => by cases hv
  by_cases hL2 : L % 2 = 0
  · rw [decide_eq_true hL2] at h1
    have run : ∃ y, r37a (L : Int) (b : Int) (b : Int) ps 0 0 (L : Int) (b : Int) (b : Int) ps 0 ((0 : Nat) : Int) [] = some y ∧ ∃ a m, y = .x0 (ev1 ps b L) a m ∧ MOK ps b m := by
      unfold r37a
      refine run_for (S := Mp) 10 (fun k s => (⟨sumTo (fun p => ts ps b (L / 2) p) k, (k : Int), s⟩ : S37a)) (fun _ s => MOK ps b s) (fun _ _ (y : T37a) => ∃ a m, y = .x0 (ev1 ps b L) a m ∧ MOK ps b m) (fun k s hk hs' => ?_) (fun s hs' => ?_) 0 [] (Nat.zero_le _) hm0
      · left
        have hh := half_bd hps hm (p := k) hs hL2
        have hsum := sum_bd (f := fun p => ts ps b (L / 2) p) (k := k) (fun j _ => half_bd hps hm (p := j) hs hL2)
        obtain ⟨k1, k2, k3⟩ := lgE_ok (ps := ps) (h := b) (ra := (L : Int)) (rc := (b : Int)) hps (L / 2) k s (by omega) hk hh.2 hs'
        refine ⟨(LG.F (L : Int) (b : Int) (b : Int) ps (L : Int) (b : Int) (b : Int) ps ((L / 2 : Nat) : Int) (k : Int) s).2, ?_, k3, fun y hy => hy⟩
        show stp37a (L : Int) (b : Int) (b : Int) ps 0 0 (L : Int) (b : Int) (b : Int) ps (sumTo (fun p => ts ps b (L / 2) p) k) (k : Int) s = _
        unfold stp37a
        have d : decide ((k : Int) ≤ 9) = true := decide_eq_true (by omega)
        rw [h1, h2, d, wrap64 (x := ((L / 2 : Nat) : Int)) (by omega) (by omega), k1, k2, wrap64 (x := sumTo (fun p => ts ps b (L / 2) p) k + ts ps b (L / 2) k) (by omega) (by omega), wrap_succ (by omega)]
        rfl
      · refine ⟨.x0 (ev1 ps b L) 10 s, ?_, 10, s, rfl, hs'⟩
        show stp37a (L : Int) (b : Int) (b : Int) ps 0 0 (L : Int) (b : Int) (b : Int) ps (sumTo (fun p => ts ps b (L / 2) p) 10) 10 s = _
        unfold stp37a ev1
        rw [if_pos hL2]
        rfl
    obtain ⟨y, h3, a, m, h4, h5⟩ := run
    exact ⟨a, m, by rw [← h4]; exact h3, h5⟩
  · rw [decide_eq_false hL2] at h1
    refine ⟨0, [], ?_, hm0⟩
    unfold r37a
    refine run_out ?_
    show stp37a (L : Int) (b : Int) (b : Int) ps 0 0 (L : Int) (b : Int) (b : Int) ps 0 0 [] = _
    unfold stp37a ev1
    rw [h1, if_neg hL2]
    rfl
theorem reven1 (hps : okPs ps) (hm : Mir ps) (hL : L ≤ 2000) (hb : b < 10) (hs : tw ps b L b ≤ 1000000000000000) : ∃ a, r38a (L : Int) (b : Int) (b : Int) ps 0 0 0 0 = some (.x0 (ev1 ps b L) a) := by
  obtain ⟨h1, h2⟩ := half_nat L
  by_cases hL2 : L % 2 = 0
  · rw [decide_eq_true hL2] at h1
    have run : ∃ y, r38a (L : Int) (b : Int) (b : Int) ps 0 0 0 ((0 : Nat) : Int) = some y ∧ ∃ a, y = .x0 (ev1 ps b L) a := by
      unfold r38a
      refine run_for (S := Unit) 10 (fun k _ => (⟨sumTo (fun p => ts ps b (L / 2) p) k, (k : Int)⟩ : S38a)) (fun _ _ => True) (fun _ _ (y : T38a) => ∃ a, y = .x0 (ev1 ps b L) a) (fun k s hk hs' => ?_) (fun s hs' => ?_) 0 () (Nat.zero_le _) trivial
      · left
        have hh := half_bd hps hm (p := k) hs hL2
        have hsum := sum_bd (f := fun p => ts ps b (L / 2) p) (k := k) (fun j _ => half_bd hps hm (p := j) hs hL2)
        obtain ⟨k1, k2⟩ := halves_val (ra := (L : Int)) (rc := (b : Int)) (n := L / 2) (p := k) hps (by omega) hb hk hh.2
        refine ⟨(), ?_, trivial, fun y hy => hy⟩
        show stp38a (L : Int) (b : Int) (b : Int) ps 0 0 (sumTo (fun p => ts ps b (L / 2) p) k) (k : Int) = _
        unfold stp38a
        have d : decide ((k : Int) ≤ 9) = true := decide_eq_true (by omega)
        rw [h1, h2, d, wrap64 (x := ((L / 2 : Nat) : Int)) (by omega) (by omega), k1, k2, wrap64 (x := sumTo (fun p => ts ps b (L / 2) p) k + ts ps b (L / 2) k) (by omega) (by omega), wrap_succ (by omega)]
        rfl
      · refine ⟨.x0 (ev1 ps b L) 10, ?_, 10, rfl⟩
        show stp38a (L : Int) (b : Int) (b : Int) ps 0 0 (sumTo (fun p => ts ps b (L / 2) p) 10) 10 = _
        unfold stp38a ev1
        rw [if_pos hL2]
        rfl
    obtain ⟨y, h3, a, h4⟩ := run
    exact ⟨a, by rw [← h4]; exact h3⟩
  · rw [decide_eq_false hL2] at h1
    refine ⟨0, ?_⟩
    unfold r38a
    refine run_out ?_
    show stp38a (L : Int) (b : Int) (b : Int) ps 0 0 0 0 = _
    unfold stp38a ev1
    rw [h1, if_neg hL2]
    rfl
theorem ev1_bd (hps : okPs ps) (hm : Mir ps) (hs : tw ps b L b ≤ 1000000000000000) : 0 ≤ ev1 ps b L ∧ ev1 ps b L ≤ 10000000000000000 := by
  unfold ev1
  split
  · rename_i hL2
    have := sum_bd (f := fun p => ts ps b (L / 2) p) (k := 10) (fun j _ => half_bd hps hm (p := j) hs hL2)
    omega
  · omega
theorem mi_beq (hps : okPs ps) (hm : Mir ps) {k : Nat} (hk : k < ps.length) : (fI (ps.getD k []) 4 == (k : Int)) = decide (mi ps k = k) := by
  rw [(mi_ok hps hm hk).1, Bool.eq_iff_iff, beq_iff_eq, decide_eq_true_eq]
  omega
theorem even2 (hps : okPs ps) (hm : Mir ps) (hL : L ≤ 2000) (hb : b < 10) (hs : tw ps b L b ≤ 1000000000000000) {m : Mp} (hm0 : MOK ps b m) : ∃ a m', r37b (L : Int) (b : Int) (b : Int) ps 0 0 ps (ps.length : Int) (L : Int) (b : Int) (b : Int) ps (ev1 ps b L) 0 m = some (.x0 (ev1 ps b L + sumTo (evT ps b L) ps.length) a m') := by
  have hl := hps.1
  have h1b := ev1_bd hps hm hs
  have run : ∃ y, r37b (L : Int) (b : Int) (b : Int) ps 0 0 ps (ps.length : Int) (L : Int) (b : Int) (b : Int) ps (ev1 ps b L + sumTo (evT ps b L) 0) ((0 : Nat) : Int) m = some y ∧ ∃ a m', y = .x0 (ev1 ps b L + sumTo (evT ps b L) ps.length) a m' := by
    unfold r37b
    refine run_for (S := Mp) ps.length (fun k s => (⟨ev1 ps b L + sumTo (evT ps b L) k, (k : Int), s⟩ : S37b)) (fun _ s => MOK ps b s) (fun _ _ (y : T37b) => ∃ a m', y = .x0 (ev1 ps b L + sumTo (evT ps b L) ps.length) a m') (fun k s hk hs' => ?_) (fun s hs' => ?_) 0 m (Nat.zero_le _) hm0
    · left
      obtain ⟨p1, p2, p3, p4, p5, p6, p7⟩ := pc_nat hps hk
      have hsum := sum_bd (f := evT ps b L) (k := k) (fun j hj => evT_bd hps hm hs (by omega))
      have hT := evT_bd hps hm hs hk
      have hsucc : sumTo (evT ps b L) (k + 1) = sumTo (evT ps b L) k + evT ps b L k := rfl
      have ew : IntKind.i64.wrap ((L : Int) - (wd ps k : Int)) = (L : Int) - (wd ps k : Int) := wrap64 (by omega) (by omega)
      show ∃ s', stp37b (L : Int) (b : Int) (b : Int) ps 0 0 ps (ps.length : Int) (L : Int) (b : Int) (b : Int) ps (ev1 ps b L + sumTo (evT ps b L) k) (k : Int) s = _ ∧ _
      unfold stp37b
      rw [Int.toNat_natCast, lt_true hk, inb_true hk, mi_beq hps hm hk, p1, p2, ew, wrap_succ (by omega)]
      by_cases c1 : mi ps k = k
      · rw [decide_eq_true c1]
        by_cases c2 : wd ps k ≤ L
        · have d2 : decide ((L : Int) - (wd ps k : Int) ≥ 0) = true := decide_eq_true (by omega)
          have e2 : (L : Int) - (wd ps k : Int) = ((L - wd ps k : Nat) : Int) := by omega
          obtain ⟨h1, h2⟩ := half_nat (L - wd ps k)
          rw [d2, e2, h1, h2]
          by_cases c3 : (L - wd ps k) % 2 = 0
          · rw [decide_eq_true c3]
            have hv : evT ps b L k = ts ps b ((L - wd ps k) / 2) (lf ps k) := if_pos ⟨c1, c2, c3⟩
            rw [hv] at hT hsucc
            obtain ⟨k1, k2, k3⟩ := lgE_ok (ps := ps) (h := b) (ra := (L : Int)) (rc := (b : Int)) hps ((L - wd ps k) / 2) (lf ps k) s (by omega) p6 hT.2 hs'
            refine ⟨(LG.F (L : Int) (b : Int) (b : Int) ps (L : Int) (b : Int) (b : Int) ps (((L - wd ps k) / 2 : Nat) : Int) (lf ps k : Int) s).2, ?_, k3, fun y hy => hy⟩
            rw [wrap64 (x := (((L - wd ps k) / 2 : Nat) : Int)) (by omega) (by omega), k1, k2, wrap64 (x := ev1 ps b L + sumTo (evT ps b L) k + ts ps b ((L - wd ps k) / 2) (lf ps k)) (by omega) (by omega), hsucc, Int.add_assoc]
            rfl
          · rw [decide_eq_false c3]
            have hv : evT ps b L k = 0 := if_neg (fun h => c3 h.2.2)
            refine ⟨s, ?_, hs', fun y hy => hy⟩
            rw [hsucc, hv, Int.add_zero]
            rfl
        · have d2 : decide ((L : Int) - (wd ps k : Int) ≥ 0) = false := decide_eq_false (by omega)
          have hv : evT ps b L k = 0 := if_neg (fun h => c2 h.2.1)
          rw [d2]
          refine ⟨s, ?_, hs', fun y hy => hy⟩
          rw [hsucc, hv, Int.add_zero]
          rfl
      · rw [decide_eq_false c1]
        have hv : evT ps b L k = 0 := if_neg (fun h => c1 h.1)
        refine ⟨s, ?_, hs', fun y hy => hy⟩
        rw [hsucc, hv, Int.add_zero]
        rfl
    · refine ⟨.x0 (ev1 ps b L + sumTo (evT ps b L) ps.length) (ps.length : Int) s, ?_, (ps.length : Int), s, rfl⟩
      show stp37b (L : Int) (b : Int) (b : Int) ps 0 0 ps (ps.length : Int) (L : Int) (b : Int) (b : Int) ps (ev1 ps b L + sumTo (evT ps b L) ps.length) (ps.length : Int) s = _
      unfold stp37b
      rw [lt_false]; rfl
  obtain ⟨y, h3, a, m', h4⟩ := run
  refine ⟨a, m', ?_⟩
  rw [← h4, ← h3]
  have : ev1 ps b L + sumTo (evT ps b L) 0 = ev1 ps b L := Int.add_zero _
  rw [this]
  rfl
theorem reven2 (hps : okPs ps) (hm : Mir ps) (hL : L ≤ 2000) (hb : b < 10) (hs : tw ps b L b ≤ 1000000000000000) : ∃ a, r38b (L : Int) (b : Int) (b : Int) ps 0 0 (ev1 ps b L) 0 = some (.x0 (ev1 ps b L + sumTo (evT ps b L) ps.length) a) := by
  have hl := hps.1
  have h1b := ev1_bd hps hm hs
  have run : ∃ y, r38b (L : Int) (b : Int) (b : Int) ps 0 0 (ev1 ps b L + sumTo (evT ps b L) 0) ((0 : Nat) : Int) = some y ∧ ∃ a, y = .x0 (ev1 ps b L + sumTo (evT ps b L) ps.length) a := by
    unfold r38b
    refine run_for (S := Unit) ps.length (fun k _ => (⟨ev1 ps b L + sumTo (evT ps b L) k, (k : Int)⟩ : S38b)) (fun _ _ => True) (fun _ _ (y : T38b) => ∃ a, y = .x0 (ev1 ps b L + sumTo (evT ps b L) ps.length) a) (fun k s hk hs' => ?_) (fun s hs' => ?_) 0 () (Nat.zero_le _) trivial
    · left
      obtain ⟨p1, p2, p3, p4, p5, p6, p7⟩ := pc_nat hps hk
      have hsum := sum_bd (f := evT ps b L) (k := k) (fun j hj => evT_bd hps hm hs (by omega))
      have hT := evT_bd hps hm hs hk
      have hsucc : sumTo (evT ps b L) (k + 1) = sumTo (evT ps b L) k + evT ps b L k := rfl
      have ew : IntKind.i64.wrap ((L : Int) - (wd ps k : Int)) = (L : Int) - (wd ps k : Int) := wrap64 (by omega) (by omega)
      refine ⟨(), ?_, trivial, fun y hy => hy⟩
      show stp38b (L : Int) (b : Int) (b : Int) ps 0 0 (ev1 ps b L + sumTo (evT ps b L) k) (k : Int) = .go ⟨ev1 ps b L + sumTo (evT ps b L) (k + 1), ((k + 1 : Nat) : Int)⟩
      unfold stp38b
      rw [Int.toNat_natCast, lt_true hk, inb_true hk, mi_beq hps hm hk, p1, p2, ew, wrap_succ (by omega)]
      by_cases c1 : mi ps k = k
      · rw [decide_eq_true c1]
        by_cases c2 : wd ps k ≤ L
        · have d2 : decide ((wd ps k : Int) ≤ (L : Int)) = true := decide_eq_true (by omega)
          have e2 : (L : Int) - (wd ps k : Int) = ((L - wd ps k : Nat) : Int) := by omega
          obtain ⟨h1, h2⟩ := half_nat (L - wd ps k)
          rw [d2, e2, h1, h2]
          by_cases c3 : (L - wd ps k) % 2 = 0
          · rw [decide_eq_true c3]
            have hv : evT ps b L k = ts ps b ((L - wd ps k) / 2) (lf ps k) := if_pos ⟨c1, c2, c3⟩
            rw [hv] at hT hsucc
            obtain ⟨k1, k2⟩ := halves_val (ra := (L : Int)) (rc := (b : Int)) (n := (L - wd ps k) / 2) (p := lf ps k) hps (by omega) hb p6 hT.2
            rw [wrap64 (x := (((L - wd ps k) / 2 : Nat) : Int)) (by omega) (by omega), k1, k2, wrap64 (x := ev1 ps b L + sumTo (evT ps b L) k + ts ps b ((L - wd ps k) / 2) (lf ps k)) (by omega) (by omega), hsucc, Int.add_assoc]
            rfl
          · rw [decide_eq_false c3]
            have hv : evT ps b L k = 0 := if_neg (fun h => c3 h.2.2)
            rw [hsucc, hv, Int.add_zero]
            rfl
        · have d2 : decide ((wd ps k : Int) ≤ (L : Int)) = false := decide_eq_false (by omega)
          have hv : evT ps b L k = 0 := if_neg (fun h => c2 h.2.1)
          rw [d2, hsucc, hv, Int.add_zero]
          rfl
      · rw [decide_eq_false c1]
        have hv : evT ps b L k = 0 := if_neg (fun h => c1 h.1)
        rw [hsucc, hv, Int.add_zero]
        rfl
    · refine ⟨.x0 (ev1 ps b L + sumTo (evT ps b L) ps.length) (ps.length : Int), ?_, (ps.length : Int), rfl⟩
      show stp38b (L : Int) (b : Int) (b : Int) ps 0 0 (ev1 ps b L + sumTo (evT ps b L) ps.length) (ps.length : Int) = _
      unfold stp38b
      rw [lt_false]; rfl
  obtain ⟨y, h3, a, h4⟩ := run
  refine ⟨a, ?_⟩
  rw [← h4, ← h3]
  have : ev1 ps b L + sumTo (evT ps b L) 0 = ev1 ps b L := Int.add_zero _
  rw [this]
  rfl
end
/-- Even, and the reference's. -/
theorem even_val {ps : PS} {n b : Nat} (hF : Fine (n : Int) (b : Int) (b : Int) ps) (hn : n ≤ 2000) (hb : b < 10) (h0 : w29_0 (n : Int) (b : Int) (b : Int) ps = 0) (hs : cnt ps b n b ≤ 1000000000000000) :
    (g37 (n : Int) (b : Int) (b : Int) ps = true ∧ w37_1 (n : Int) (b : Int) (b : Int) ps = 0 ∧ w37_0 (n : Int) (b : Int) (b : Int) ps = ev1 ps b n + sumTo (evT ps b n) ps.length) ∧
    g38 (n : Int) (b : Int) (b : Int) ps = true ∧ w38_1 (n : Int) (b : Int) (b : Int) ps = 0 ∧ w38_0 (n : Int) (b : Int) (b : Int) ps = ev1 ps b n + sumTo (evT ps b n) ps.length := by
  have hps := hF.ps
  have hm : Mir ps := (check_eq (n : Int) (b : Int) (b : Int) ps).2.2 h0
  have htw : tw ps b n b ≤ 1000000000000000 := by rw [tw_small hps hs]; exact hs
  obtain ⟨g1, g2, g3⟩ := counted_val hps hn hb hb h0
  rcases g3 with ⟨h1, _⟩ | ⟨_, h1, h2, h3, h4⟩
  · omega
  obtain ⟨a, m, q1, q2⟩ := even1 hps hm hn hb htw
  obtain ⟨a2, m2, q3⟩ := even2 hps hm hn hb htw q2
  obtain ⟨a3, q4⟩ := reven1 hps hm hn hb htw
  obtain ⟨a4, q5⟩ := reven2 hps hm hn hb htw
  have z1 : ((0 : Int) != 0) = false := by decide
  have z2 : ((b : Int) != (b : Int)) = false := by simp
  refine ⟨?_, ?_⟩
  · unfold g37 w37_1 w37_0 t37 i37a_0 i37b_0 v37a_0_t8 v37a_0_m17 v37b_0_t8
    rw [g1, h1, z1, z2, q1]
    simp only
    rw [q3]
    exact ⟨rfl, rfl, rfl⟩
  · unfold g38 w38_1 w38_0 t38 i38a_0 i38b_0 v38a_0_t6 v38b_0_t6
    rw [g2, h3, z1, z2, q4]
    simp only
    rw [q5]
    exact ⟨rfl, rfl, rfl⟩
theorem even_same (ra rb rc : Int) (ps : PS) : g37 ra rb rc ps = true ∧ g38 ra rb rc ps = true ∧ w38_0 ra rb rc ps = w37_0 ra rb rc ps ∧ w38_1 ra rb rc ps = w37_1 ra rb rc ps := by
  by_cases h0 : w29_0 ra rb rc ps = 0
  · have hF := fine_of h0
    obtain ⟨n, b, c, rfl, rfl, rfl, hn, hb, hc⟩ := fine_nat hF
    obtain ⟨g1, g2, g3⟩ := counted_val hF.ps hn hb hc h0
    rcases g3 with ⟨h1, h2, h3⟩ | ⟨hs, h1, h2, h3, h4⟩
    · have z1 : ((3 : Int) != 0) = true := by decide
      unfold g37 g38 w37_0 w37_1 w38_0 w38_1 t37 t38
      rw [g1, g2, h2, h3, z1]
      exact ⟨rfl, rfl, rfl, rfl⟩
    · by_cases hbc : b = c
      · subst hbc
        obtain ⟨⟨a1, a2, a3⟩, a4, a5, a6⟩ := even_val hF hn hb h0 hs
        exact ⟨a1, a4, a6.trans a3.symm, a5.trans a2.symm⟩
      · have z1 : ((0 : Int) != 0) = false := by decide
        have z2 : ((b : Int) != (c : Int)) = true := by rw [bne_iff_ne]; omega
        unfold g37 g38 w37_0 w37_1 w38_0 w38_1 t37 t38
        rw [g1, g2, h1, h3, z1, z2]
        exact ⟨rfl, rfl, rfl, rfl⟩
  · obtain ⟨⟨c1, c2⟩, c3, c4⟩ := counted_err h0
    have hz : (w29_0 ra rb rc ps != 0) = true := by simpa using h0
    unfold g37 g38 w37_0 w37_1 w38_0 w38_1 t37 t38
    rw [c1, c2, c3, c4, hz]
    exact ⟨rfl, rfl, rfl, rfl⟩
theorem ways_same (ra rb rc : Int) (ps : PS) : g20 ra rb rc ps = true ∧ g36 ra rb rc ps = true ∧ w36_0 ra rb rc ps = w20_0 ra rb rc ps ∧ w36_1 ra rb rc ps = w20_1 ra rb rc ps := by
  by_cases h0 : w29_0 ra rb rc ps = 0
  · have hF := fine_of h0
    obtain ⟨n, b, c, rfl, rfl, rfl, hn, hb, hc⟩ := fine_nat hF
    obtain ⟨g1, g2, g3⟩ := counted_val hF.ps hn hb hc h0
    obtain ⟨v1, v2⟩ := ways_nat hF.ps hn hb hc h0
    rcases g3 with ⟨h1, h2, h3⟩ | ⟨hs, h1, h2, h3, h4⟩
    · rcases v2 with ⟨_, v2, v3⟩ | ⟨hs, v2, v3⟩
      · have z1 : ((3 : Int) != 0) = true := by decide
        unfold g36 w36_0 w36_1 t36
        rw [v1, v2, v3, g2, h3, z1]
        exact ⟨rfl, rfl, rfl, rfl⟩
      · omega
    · rcases v2 with ⟨hx, v2, v3⟩ | ⟨_, v2, v3⟩
      · omega
      · have z1 : ((0 : Int) != 0) = false := by decide
        have o3 := tab_toI (ps := ps) (c := c) (N := n) (n := n) (h := b) (Nat.le_refl _) hb
        have cb := cts91 hb
        simp only [Int.toNat_natCast, Nat.zero_add, Nat.mul_one] at cb
        have ib : inb (b : Int) 10 = true := by simp [inb_nat, hb]
        have i0 : inb (n : Int) (n + 1) = true := by simp [inb_nat]
        unfold g36 w36_0 w36_1 t36
        simp only [v1, v2, v3, g2, h3, h4, z1, tab_len, ib, i0, cb, Int.toNat_natCast, Nat.zero_add, Nat.mul_one, o3]
        exact ⟨trivial, rfl, rfl, rfl⟩
  · obtain ⟨⟨c1, c2⟩, c3, c4⟩ := counted_err h0
    have hz : (w29_0 ra rb rc ps != 0) = true := by simpa using h0
    unfold g20 w20_0 w20_1 t20 g36 w36_0 w36_1 t36
    rw [c1, c2, c3, c4, hz]
    exact ⟨rfl, rfl, rfl, rfl⟩
end Go.Proofs.Ytgifjphinkbcaaa

set_option maxRecDepth 100000
set_option linter.unusedVariables false
namespace Go.Proofs.Ytgifjphinkbcaaa
open Go Go.Ev
/-! ### Rows, weighed -/
noncomputable def wR (ps : PS) (c : Nat) (n h : Nat) (f : List Nat → Int) : Int :=
  if n = 0 then (if h = c then f [] else 0) else sumTo (fun k => if hk : lf ps k = h ∧ 1 ≤ wd ps k ∧ wd ps k ≤ n then wR ps c (n - wd ps k) (rt ps k) (fun r => f (k :: r)) else 0) ps.length
termination_by n
decreasing_by omega
theorem wR_zero (ps : PS) (c h : Nat) (f : List Nat → Int) : wR ps c 0 h f = if h = c then f [] else 0 := by
  rw [wR, if_pos rfl]
theorem wR_pos (ps : PS) (c h : Nat) (f : List Nat → Int) {n : Nat} (hn : 0 < n) : wR ps c n h f = sumTo (fun k => if lf ps k = h ∧ 1 ≤ wd ps k ∧ wd ps k ≤ n then wR ps c (n - wd ps k) (rt ps k) (fun r => f (k :: r)) else 0) ps.length := by
  rw [wR, if_neg (by omega)]
  refine sumTo_congr fun j _ => ?_
  split <;> rfl
theorem wR_add (ps : PS) (c : Nat) : ∀ (n h : Nat) (f g : List Nat → Int), wR ps c n h (fun r => f r + g r) = wR ps c n h f + wR ps c n h g := by
  intro n
  induction n using Nat.strongRecOn with
  | ind n ih =>
  intro h f g
  rcases Nat.eq_zero_or_pos n with rfl | hn
  · rw [wR_zero, wR_zero, wR_zero]
    split <;> omega
  · rw [wR_pos _ _ _ _ hn, wR_pos _ _ _ _ hn, wR_pos _ _ _ _ hn, ← sumTo_add]
    refine sumTo_congr fun k _ => ?_
    split
    · exact ih (n - wd ps k) (by omega) _ _ _
    · omega
theorem wR_null (ps : PS) (c : Nat) : ∀ (n h : Nat), wR ps c n h (fun _ => 0) = 0 := by
  intro n
  induction n using Nat.strongRecOn with
  | ind n ih =>
  intro h
  rcases Nat.eq_zero_or_pos n with rfl | hn
  · rw [wR_zero]; split <;> rfl
  · rw [wR_pos _ _ _ _ hn]
    refine sumTo_null fun k _ => ?_
    split
    · exact ih (n - wd ps k) (by omega) _
    · rfl
theorem wR_nil (ps : PS) (c n h : Nat) (a : Int) : wR ps c n h (fun r => if r = [] then a else 0) = if n = 0 ∧ h = c then a else 0 := by
  rcases Nat.eq_zero_or_pos n with rfl | hn
  · rw [wR_zero]
    by_cases e : h = c
    · rw [if_pos e, if_pos rfl, if_pos ⟨rfl, e⟩]
    · rw [if_neg e, if_neg (fun h' => e h'.2)]
  · rw [wR_pos _ _ _ _ hn, if_neg (by omega)]
    refine sumTo_null fun k _ => ?_
    have : (fun r : List Nat => if (k :: r) = [] then a else 0) = fun _ => 0 := by
      funext r
      rw [if_neg (by simp)]
    rw [this, wR_null]
    split <;> rfl
/-- Rows that end with a piece. -/
def snocW (q : Nat) (f : List Nat → Int) (r : List Nat) : Int := if r.getLast? = some q then f r.dropLast else 0
theorem snocW_nil (q : Nat) (f : List Nat → Int) : snocW q f [] = 0 := if_neg (by simp)
theorem snocW_cons (q k : Nat) (f : List Nat → Int) (r : List Nat) : snocW q f (k :: r) = (if r = [] then (if k = q then f [] else 0) else 0) + snocW q (fun s => f (k :: s)) r := by
  cases r with
  | nil =>
    rw [snocW_nil, if_pos rfl]
    unfold snocW
    by_cases e : k = q
    · subst e; simp
    · simp [e]
  | cons a r =>
    rw [if_neg (by simp), Int.zero_add]
    unfold snocW
    rw [List.getLast?_cons_cons]
    rfl
theorem sumTo_pick {f : Nat → Int} {q : Nat} : ∀ {k : Nat}, q < k → (∀ j, j < k → j ≠ q → f j = 0) → sumTo f k = f q
  | 0, h, _ => by omega
  | k + 1, h, hz => by
    show sumTo f k + f k = f q
    rcases Nat.lt_succ_iff_lt_or_eq.1 h with h' | rfl
    · rw [sumTo_pick h' (fun j hj hq => hz j (by omega) hq), hz k (by omega) (by omega), Int.add_zero]
    · rw [sumTo_null (fun j hj => hz j (by omega) (by omega)), Int.zero_add]
theorem wR_snoc {ps : PS} (hps : okPs ps) {q : Nat} (hq : q < ps.length) : ∀ (m c h : Nat) (f : List Nat → Int), wR ps c m h (snocW q f) = if rt ps q = c ∧ wd ps q ≤ m then wR ps (lf ps q) (m - wd ps q) h f else 0 := by
  obtain ⟨p1, p2, p3, p4, p5, p6, p7⟩ := pc_nat hps hq
  intro m
  induction m using Nat.strongRecOn with
  | ind m ih =>
  intro c h f
  rcases Nat.eq_zero_or_pos m with rfl | hm
  · have e : ¬ (rt ps q = c ∧ wd ps q ≤ 0) := fun h' => by omega
    rw [wR_zero, snocW_nil, if_neg e]
    split <;> rfl
  · rw [wR_pos _ _ _ _ hm]
    have e1 : ∀ k, (if lf ps k = h ∧ 1 ≤ wd ps k ∧ wd ps k ≤ m then wR ps c (m - wd ps k) (rt ps k) (fun r => snocW q f (k :: r)) else 0)
        = (if lf ps k = h ∧ 1 ≤ wd ps k ∧ wd ps k = m ∧ rt ps k = c ∧ k = q then f [] else 0) + (if lf ps k = h ∧ 1 ≤ wd ps k ∧ wd ps k ≤ m ∧ rt ps q = c ∧ wd ps q ≤ m - wd ps k then wR ps (lf ps q) (m - wd ps k - wd ps q) (rt ps k) (fun r => f (k :: r)) else 0) := by
      intro k
      by_cases hA : lf ps k = h ∧ 1 ≤ wd ps k ∧ wd ps k ≤ m
      · rw [if_pos hA]
        have : (fun r => snocW q f (k :: r)) = fun r => (if r = [] then (if k = q then f [] else 0) else 0) + snocW q (fun s => f (k :: s)) r := by
          funext r
          exact snocW_cons q k f r
        rw [this, wR_add, wR_nil, ih (m - wd ps k) (by omega)]
        congr 1
        · by_cases h1 : m - wd ps k = 0 ∧ rt ps k = c
          · rw [if_pos h1]
            by_cases h2 : k = q
            · rw [if_pos h2, if_pos ⟨hA.1, hA.2.1, by omega, h1.2, h2⟩]
            · rw [if_neg h2, if_neg (fun h' => h2 h'.2.2.2.2)]
          · rw [if_neg h1, if_neg (fun h' => h1 ⟨by omega, h'.2.2.2.1⟩)]
        · by_cases h1 : rt ps q = c ∧ wd ps q ≤ m - wd ps k
          · rw [if_pos h1, if_pos ⟨hA.1, hA.2.1, hA.2.2, h1.1, h1.2⟩]
          · rw [if_neg h1, if_neg (fun h' => h1 ⟨h'.2.2.2.1, h'.2.2.2.2⟩)]
      · rw [if_neg hA, if_neg (fun h' => hA ⟨h'.1, h'.2.1, by omega⟩), if_neg (fun h' => hA ⟨h'.1, h'.2.1, h'.2.2.1⟩)]
        rfl
    rw [sumTo_congr (fun k _ => e1 k), sumTo_add]
    rw [sumTo_pick hq (fun j _ hjq => if_neg (fun h' => hjq h'.2.2.2.2))]
    by_cases hc : rt ps q = c ∧ wd ps q ≤ m
    · rw [if_pos hc]
      rcases Nat.eq_zero_or_pos (m - wd ps q) with hz | hp
      · rw [hz, wR_zero, sumTo_null (fun k _ => if_neg (fun h' => by omega)), Int.add_zero]
        by_cases hh : h = lf ps q
        · rw [if_pos hh, if_pos ⟨hh.symm, p4, by omega, hc.1, rfl⟩]
        · rw [if_neg hh, if_neg (fun h' => hh h'.1.symm)]
      · rw [wR_pos _ _ _ _ hp, if_neg (fun h' => by omega), Int.zero_add]
        refine sumTo_congr fun k _ => ?_
        by_cases hk : lf ps k = h ∧ 1 ≤ wd ps k ∧ wd ps k ≤ m - wd ps q
        · rw [if_pos hk, if_pos ⟨hk.1, hk.2.1, by omega, hc.1, by omega⟩, Nat.sub_right_comm]
        · rw [if_neg hk, if_neg (fun h' => hk ⟨h'.1, h'.2.1, by omega⟩)]
    · rw [if_neg hc, if_neg (fun h' => hc ⟨by rw [← h'.2.2.2.2]; exact h'.2.2.2.1, by
        have := h'.2.2.1
        omega⟩), sumTo_null (fun k _ => if_neg (fun h' => hc ⟨h'.2.2.2.1, by omega⟩))]
      rfl
/-! Rows that are their own image. -/
def pal (ps : PS) (r : List Nat) : Prop := r.map (mi ps) = r.reverse
instance (ps : PS) (r : List Nat) : Decidable (pal ps r) := inferInstanceAs (Decidable (_ = _))
def palW (ps : PS) (r : List Nat) : Int := if pal ps r then 1 else 0
theorem palW_cons {ps : PS} (hps : okPs ps) (hm : Mir ps) {k : Nat} (hk : k < ps.length) (r : List Nat) : palW ps (k :: r) = (if r = [] then (if mi ps k = k then 1 else 0) else 0) + snocW (mi ps k) (palW ps) r := by
  obtain ⟨_, a1, a2, _⟩ := mi_ok hps hm hk
  rcases List.eq_nil_or_concat r with rfl | ⟨s, q, rfl⟩
  · rw [snocW_nil, if_pos rfl, Int.add_zero]
    unfold palW
    have hp : pal ps [k] ↔ mi ps k = k := by
      unfold pal
      simp
    by_cases e : mi ps k = k
    · rw [if_pos e, if_pos (hp.2 e)]
    · rw [if_neg e, if_neg (fun h' => e (hp.1 h'))]
  · have hs : ¬ (s.concat q) = [] := by simp
    rw [if_neg hs, Int.zero_add]
    unfold snocW palW
    rw [List.concat_eq_append]
    have hl : (s ++ [q]).getLast? = some q := by simp
    have hd : (s ++ [q]).dropLast = s := by simp
    rw [hl, hd]
    have key : pal ps (k :: (s ++ [q])) ↔ (some q = some (mi ps k) ∧ pal ps s) := by
      unfold pal
      simp only [List.map_cons, List.map_append, List.map_nil, List.reverse_cons, List.reverse_append, List.reverse_nil, List.nil_append, List.cons_append, List.cons.injEq, Option.some.injEq]
      constructor
      · rintro ⟨h1, h2⟩
        have h3 := List.append_inj_left' h2 rfl
        exact ⟨h1.symm, h3⟩
      · rintro ⟨h1, h2⟩
        refine ⟨h1.symm, ?_⟩
        rw [h2, h1, a2]
    by_cases h1 : some q = some (mi ps k)
    · rw [if_pos h1]
      by_cases h2 : pal ps s
      · rw [if_pos h2, if_pos (key.2 ⟨h1, h2⟩)]
      · rw [if_neg h2, if_neg (fun h' => h2 (key.1 h').2)]
    · rw [if_neg h1, if_neg (fun h' => h1 (key.1 h').1)]
noncomputable def PE (ps : PS) (n h : Nat) : Int := wR ps h n h (palW ps)
theorem PE_zero (ps : PS) (h : Nat) : PE ps 0 h = 1 := by
  unfold PE
  rw [wR_zero, if_pos rfl]
  rfl
theorem PE_pos {ps : PS} (hps : okPs ps) (hm : Mir ps) {n h : Nat} (hn : 0 < n) : PE ps n h = sumTo (fun k => if lf ps k = h ∧ mi ps k = k ∧ n = wd ps k then 1 else 0) ps.length + sumTo (fun k => if lf ps k = h ∧ 2 * wd ps k ≤ n then PE ps (n - 2 * wd ps k) (rt ps k) else 0) ps.length := by
  unfold PE
  rw [wR_pos _ _ _ _ hn, ← sumTo_add]
  refine sumTo_congr fun k hk => ?_
  obtain ⟨p1, p2, p3, p4, p5, p6, p7⟩ := pc_nat hps hk
  obtain ⟨_, a1, a2, a3, a4, a5⟩ := mi_ok hps hm hk
  by_cases hA : lf ps k = h ∧ 1 ≤ wd ps k ∧ wd ps k ≤ n
  · rw [if_pos hA]
    have : (fun r => palW ps (k :: r)) = fun r => (if r = [] then (if mi ps k = k then 1 else 0) else 0) + snocW (mi ps k) (palW ps) r := by
      funext r
      exact palW_cons hps hm hk r
    rw [this, wR_add, wR_nil, wR_snoc hps a1, a3, a4, a5]
    congr 1
    · by_cases h1 : mi ps k = k
      · rw [h1] at a4
        rw [if_pos h1]
        by_cases h2 : n = wd ps k
        · rw [if_pos ⟨by omega, by rw [← a4]; exact hA.1⟩, if_pos ⟨hA.1, h1, h2⟩]
        · rw [if_neg (fun h' => h2 (by omega)), if_neg (fun h' => h2 h'.2.2)]
      · rw [if_neg h1, show (if n - wd ps k = 0 ∧ rt ps k = h then (0 : Int) else 0) = 0 from by split <;> rfl]
        exact (if_neg (fun h' => h1 h'.2.1)).symm
    · by_cases h2 : 2 * wd ps k ≤ n
      · rw [if_pos ⟨hA.1, by omega⟩, if_pos ⟨hA.1, h2⟩, show n - wd ps k - wd ps k = n - 2 * wd ps k by omega]
      · rw [if_neg (fun h' => h2 (by omega)), if_neg (fun h' => h2 h'.2)]
  · rw [if_neg hA, if_neg (fun h' => hA ⟨h'.1, p4, by omega⟩), if_neg (fun h' => hA ⟨h'.1, p4, by omega⟩)]
    rfl
noncomputable def EE (ps : PS) (n h : Nat) : Int := ev1 ps h n + sumTo (evT ps h n) ps.length
theorem ev1_step {ps : PS} (hps : okPs ps) {n h : Nat} (hn : 0 < n) : ev1 ps h n = sumTo (fun k => if lf ps k = h ∧ 2 * wd ps k ≤ n then ev1 ps (rt ps k) (n - 2 * wd ps k) else 0) ps.length := by
  by_cases hL : n % 2 = 0
  · have e0 : ev1 ps h n = sumTo (fun p => ts ps h (n / 2) p) 10 := if_pos hL
    rw [e0]
    have e1 : ∀ p, ts ps h (n / 2) p = sumTo (fun k => if lf ps k = h ∧ 1 ≤ wd ps k ∧ wd ps k ≤ n / 2 then ts ps (rt ps k) (n / 2 - wd ps k) p else 0) ps.length := fun p => by
      rw [← tw_ts, tw_pos ps p h (show 0 < n / 2 by omega)]
      refine sumTo_congr fun k _ => ?_
      rw [tw_ts]
    rw [sumTo_congr (fun p _ => e1 p), sumTo_swap]
    refine sumTo_congr fun k hk => ?_
    obtain ⟨p1, p2, p3, p4, p5, p6, p7⟩ := pc_nat hps hk
    by_cases hc : lf ps k = h ∧ 2 * wd ps k ≤ n
    · have e2 : ev1 ps (rt ps k) (n - 2 * wd ps k) = sumTo (fun p => ts ps (rt ps k) ((n - 2 * wd ps k) / 2) p) 10 := if_pos (by omega)
      rw [if_pos hc, e2]
      refine sumTo_congr fun p _ => ?_
      rw [if_pos ⟨hc.1, p4, by omega⟩, show (n - 2 * wd ps k) / 2 = n / 2 - wd ps k by omega]
    · rw [if_neg hc]
      exact sumTo_null fun p _ => if_neg (fun h' => hc ⟨h'.1, by omega⟩)
  · have e0 : ev1 ps h n = 0 := if_neg hL
    rw [e0]
    symm
    refine sumTo_null fun k _ => ?_
    split
    · exact if_neg (by omega)
    · rfl
theorem evT_step {ps : PS} (hps : okPs ps) {n h i : Nat} (hi : i < ps.length) : evT ps h n i = (if lf ps i = h ∧ mi ps i = i ∧ n = wd ps i then 1 else 0) + sumTo (fun k => if lf ps k = h ∧ 2 * wd ps k ≤ n then evT ps (rt ps k) (n - 2 * wd ps k) i else 0) ps.length := by
  obtain ⟨q1, q2, q3, q4, q5, q6, q7⟩ := pc_nat hps hi
  by_cases hc : mi ps i = i ∧ wd ps i ≤ n ∧ (n - wd ps i) % 2 = 0
  · have e0 : evT ps h n i = ts ps h ((n - wd ps i) / 2) (lf ps i) := if_pos hc
    rw [e0]
    rcases Nat.eq_zero_or_pos ((n - wd ps i) / 2) with hz | hp
    · rw [hz, ts_zero, sumTo_null, Int.add_zero]
      · by_cases e : h = lf ps i
        · rw [if_pos e, if_pos ⟨e.symm, hc.1, by omega⟩]
        · rw [if_neg e, if_neg (fun h' => e h'.1.symm)]
      · intro k hk
        obtain ⟨p1, p2, p3, p4, p5, p6, p7⟩ := pc_nat hps hk
        by_cases hk2 : lf ps k = h ∧ 2 * wd ps k ≤ n
        · rw [if_pos hk2]
          exact if_neg (fun h' => by omega)
        · rw [if_neg hk2]
    · rw [if_neg (fun h' => by omega), Int.zero_add, ← tw_ts, tw_pos ps _ h hp]
      refine sumTo_congr fun k hk => ?_
      obtain ⟨p1, p2, p3, p4, p5, p6, p7⟩ := pc_nat hps hk
      by_cases hk2 : lf ps k = h ∧ 1 ≤ wd ps k ∧ wd ps k ≤ (n - wd ps i) / 2
      · have e2 : evT ps (rt ps k) (n - 2 * wd ps k) i = ts ps (rt ps k) ((n - 2 * wd ps k - wd ps i) / 2) (lf ps i) := if_pos ⟨hc.1, by omega, by omega⟩
        rw [if_pos hk2, if_pos ⟨hk2.1, by omega⟩, e2, tw_ts, show (n - 2 * wd ps k - wd ps i) / 2 = (n - wd ps i) / 2 - wd ps k by omega]
      · rw [if_neg hk2]
        by_cases hk3 : lf ps k = h ∧ 2 * wd ps k ≤ n
        · rw [if_pos hk3]
          exact (if_neg (fun h' => hk2 ⟨hk3.1, p4, by omega⟩)).symm
        · rw [if_neg hk3]
  · have e0 : evT ps h n i = 0 := if_neg hc
    rw [e0, if_neg (fun h' => hc ⟨h'.2.1, by omega, by omega⟩), sumTo_null]
    · rfl
    · intro k hk
      by_cases hk3 : lf ps k = h ∧ 2 * wd ps k ≤ n
      · rw [if_pos hk3]
        exact if_neg (fun h' => hc ⟨h'.1, by omega, by omega⟩)
      · rw [if_neg hk3]
theorem PE_EE {ps : PS} (hps : okPs ps) (hm : Mir ps) : ∀ (n h : Nat), h < 10 → PE ps n h = EE ps n h := by
  intro n
  induction n using Nat.strongRecOn with
  | ind n ih =>
  intro h hh
  rcases Nat.eq_zero_or_pos n with rfl | hn
  · rw [PE_zero]
    unfold EE
    have e1 : ev1 ps h 0 = 1 := by
      have : ev1 ps h 0 = sumTo (fun p => ts ps h (0 / 2) p) 10 := if_pos rfl
      rw [this]
      have e2 : ∀ p, ts ps h (0 / 2) p = if (h : Int) = (p : Int) then (fun _ => (1 : Int)) p else 0 := fun p => by
        rw [show 0 / 2 = 0 from rfl, ts_zero]
        by_cases e : h = p
        · rw [if_pos e, if_pos (by omega)]
        · rw [if_neg e, if_neg (by omega)]
      rw [sumTo_congr (fun p _ => e2 p), sumTo_one (fun _ => (1 : Int)) h 10, if_pos hh]
    rw [e1, sumTo_null, Int.add_zero]
    intro i hi
    obtain ⟨p1, p2, p3, p4, p5, p6, p7⟩ := pc_nat hps hi
    exact if_neg (fun h' => by omega)
  · rw [PE_pos hps hm hn]
    unfold EE
    rw [ev1_step hps hn, sumTo_congr (fun i hi => evT_step hps (n := n) (h := h) hi), sumTo_add, sumTo_swap]
    have e1 : sumTo (fun k => if lf ps k = h ∧ 2 * wd ps k ≤ n then PE ps (n - 2 * wd ps k) (rt ps k) else 0) ps.length
        = sumTo (fun k => if lf ps k = h ∧ 2 * wd ps k ≤ n then ev1 ps (rt ps k) (n - 2 * wd ps k) else 0) ps.length + sumTo (fun j => sumTo (fun k => if lf ps j = h ∧ 2 * wd ps j ≤ n then evT ps (rt ps j) (n - 2 * wd ps j) k else 0) ps.length) ps.length := by
      rw [← sumTo_add]
      refine sumTo_congr fun k hk => ?_
      obtain ⟨p1, p2, p3, p4, p5, p6, p7⟩ := pc_nat hps hk
      by_cases hc : lf ps k = h ∧ 2 * wd ps k ≤ n
      · rw [if_pos hc, if_pos hc, ih (n - 2 * wd ps k) (by omega) (rt ps k) p7]
        unfold EE
        congr 1
        refine sumTo_congr fun i _ => ?_
        rw [if_pos hc]
      · rw [if_neg hc, if_neg hc, sumTo_null (fun i _ => if_neg hc)]
        rfl
    rw [e1]
    omega
/-! The rows by their numbers. -/
theorem sumTo_split (f : Nat → Int) (a : Nat) : ∀ b, sumTo f (a + b) = sumTo f a + sumTo (fun y => f (a + y)) b
  | 0 => (Int.add_zero _).symm
  | b + 1 => by
    show sumTo f (a + b) + f (a + b) = sumTo f a + (sumTo (fun y => f (a + y)) b + f (a + b))
    rw [sumTo_split f a b, Int.add_assoc]
theorem wR_count {ps : PS} (hps : okPs ps) {c : Nat} : ∀ (n h : Nat) (f : List Nat → Int) (g : Nat → Int), cnt ps c n h ≤ 1000000000000000 → (∀ x : Nat, (x : Int) < cnt ps c n h → ∃ row, NthR ps c n h (x : Int) row ∧ g x = f row) → sumTo g (cnt ps c n h).toNat = wR ps c n h f := by
  intro n
  induction n using Nat.strongRecOn with
  | ind n ih =>
  intro h f g hs hg
  rcases Nat.eq_zero_or_pos n with rfl | hn
  · have hc0 := cnt_zero ps c h
    rw [wR_zero]
    by_cases e : h = c
    · rw [if_pos e] at hc0 ⊢
      obtain ⟨row, hr, hv⟩ := hg 0 (by rw [hc0]; decide)
      rw [hc0]
      cases hr with
      | nil =>
        show sumTo g 0 + g 0 = _
        rw [hv]
        exact Int.zero_add _
      | cons h0 => omega
    · rw [if_neg e] at hc0 ⊢
      rw [hc0]
      rfl
  · rw [wR_pos _ _ _ _ hn]
    have key : ∀ k, k ≤ ps.length → sumTo g (sm ps c n h k).toNat = sumTo (fun k => if lf ps k = h ∧ 1 ≤ wd ps k ∧ wd ps k ≤ n then wR ps c (n - wd ps k) (rt ps k) (fun r => f (k :: r)) else 0) k := by
      intro k
      induction k with
      | zero => exact fun _ => rfl
      | succ k ihk =>
        intro hk
        have hkl : k < ps.length := by omega
        obtain ⟨p1, p2, p3, p4, p5, p6, p7⟩ := pc_nat hps hkl
        have i1 := ihk (by omega)
        have hsu := sm_succ (c := c) (h := h) hps hn hkl hs
        have hl0 := sm_le (c := c) (h := h) hps hn k
        have hl1 := sm_le (c := c) (h := h) hps hn (k + 1)
        show _ = sumTo _ k + (if lf ps k = h ∧ 1 ≤ wd ps k ∧ wd ps k ≤ n then wR ps c (n - wd ps k) (rt ps k) (fun r => f (k :: r)) else 0)
        by_cases hc : lf ps k = h ∧ wd ps k ≤ n
        · rw [if_pos hc] at hsu
          have hco := cnt_ok ps c (n - wd ps k) (rt ps k)
          rw [if_pos ⟨hc.1, p4, hc.2⟩, hsu, show (sm ps c n h k + cnt ps c (n - wd ps k) (rt ps k)).toNat = (sm ps c n h k).toNat + (cnt ps c (n - wd ps k) (rt ps k)).toNat by omega, sumTo_split, i1]
          congr 1
          refine ih (n - wd ps k) (by omega) (rt ps k) (fun r => f (k :: r)) (fun y => g ((sm ps c n h k).toNat + y)) (by omega) fun y hy => ?_
          obtain ⟨row, hr, hv⟩ := hg ((sm ps c n h k).toNat + y) (by omega)
          have ex : (((sm ps c n h k).toNat + y : Nat) : Int) = sm ps c n h k + (y : Int) := by omega
          rw [ex] at hr
          generalize hxx : sm ps c n h k + (y : Int) = xx at hr
          cases hr with
          | nil => omega
          | @cons _ _ j _ row g0 gi ga gb gr =>
            have hj : j = k := sm_uniq hps hn hs gi hkl ga gb (by omega) (by omega)
            subst hj
            refine ⟨row, ?_, hv⟩
            rw [show xx - sm ps c n h j = (y : Int) by omega] at gr
            exact gr
        · rw [if_neg hc] at hsu
          rw [if_neg (fun h' => hc ⟨h'.1, h'.2.2⟩), hsu, Int.add_zero, Int.add_zero, i1]
    have := key ps.length (Nat.le_refl _)
    rw [sm_len hps hn] at this
    exact this
end Go.Proofs.Ytgifjphinkbcaaa

set_option maxRecDepth 100000
set_option linter.unusedVariables false
namespace Go.Proofs.Ytgifjphinkbcaaa
open Go Go.Ev
noncomputable def SE : Ev.Spec := insS 40 e40 (insS 37 e37 (insS 20 e20 (insS 19 e19 (insS 18 e18 S0))))
theorem SE_ok : SpecOK Try.prog SE := insS_ok e40_ok (insS_ok e37_ok (insS_ok e20_ok (insS_ok e19_ok (insS_ok e18_ok S0_ok))))
end Go.Proofs.Ytgifjphinkbcaaa

set_option maxRecDepth 100000
set_option maxHeartbeats 1000000
set_option linter.unusedVariables false
namespace Go.Proofs.Ytgifjphinkbcaaa
open Go Go.Ev

/-! ### RidgeEven -/
noncomputable def c12 : Code := match Try.f12.body with | some c => c | _ => .skip
noncomputable def lp12a : Code := loopAt c12 [true, true, true, true, true, false, true, false]
noncomputable def s12a (ra : Int) (rb : Int) (rc : Int) (ps : List (List AV)) (t2 : Bool) (t3 : Int) (t4 : Int) (t5 : Int) (t6 : Int) : St :=
  { t := [(1, .rp [.int .i64, .int .i64, .int .i64, .sl 31] [.i .i64 ra, .i .i64 rb, .i .i64 rc, .rs 31 ps] 0), (2, .b t2), (3, .i .i64 t3), (4, .i .i64 t4), (5, .i .i64 t5), (6, .i .i64 t6)], m := [], nx := 0, nt := 100 }
noncomputable def lp12aa : Code := loopAt c12 [true, true, true, true, true, false, true, false, false, true, false, false, true, true, true, false, true, false]
noncomputable def s12aa (ra : Int) (rb : Int) (rc : Int) (ps : List (List AV)) (t2 : Bool) (t3 : Int) (t4 : Int) (t5 : Int) (t6 : Int) (t7 : List (List AV)) (t9 : Bool) (t10 : Int) : St :=
  { t := [(1, .rp [.int .i64, .int .i64, .int .i64, .sl 31] [.i .i64 ra, .i .i64 rb, .i .i64 rc, .rs 31 ps] 0), (2, .b t2), (3, .i .i64 t3), (4, .i .i64 t4), (5, .i .i64 t5), (6, .i .i64 t6), (7, .rs 3 t7), (9, .b t9), (10, .i .i64 t10)], m := [], nx := 0, nt := 100 }
structure S12aa where
  t9 : Bool
  t10 : Int
inductive T12aa where
  | x0 (t9 : Bool) (t10 : Int)
noncomputable def stp12aa (ra : Int) (rb : Int) (rc : Int) (ps : List (List AV)) (t2 : Bool) (t3 : Int) (t4 : Int) (t5 : Int) (t6 : Int) (t7 : List (List AV)) (t9 : Bool) (t10 : Int) : Lp S12aa T12aa :=
  cond (decide (t10 < (↑t7.length : Int))) (cond (inb t10 t7.length) (cond (inb (IntKind.i64.wrap (IntKind.i64.wrap ((↑t7.length : Int) - 1) - t10)) t7.length) (cond (t9) (cond (decide (fI (t7.getD t10.toNat []) 0 ≥ 0)) (cond (decide (fI (t7.getD t10.toNat []) 0 < (↑ps.length : Int))) (cond (inb (fI (t7.getD t10.toNat []) 0) ps.length) (.go ⟨fI (ps.getD (fI (t7.getD t10.toNat []) 0).toNat []) 4 == fI (t7.getD (IntKind.i64.wrap (IntKind.i64.wrap ((↑t7.length : Int) - 1) - t10)).toNat []) 0, IntKind.i64.wrap (t10 + 1)⟩) (.bad)) (.go ⟨false, IntKind.i64.wrap (t10 + 1)⟩)) (.go ⟨false, IntKind.i64.wrap (t10 + 1)⟩)) (.go ⟨false, IntKind.i64.wrap (t10 + 1)⟩)) (.bad)) (.bad)) (.out (.x0 t9 t10))
noncomputable def o12aa_0 (ra : Int) (rb : Int) (rc : Int) (ps : List (List AV)) (t2 : Bool) (t3 : Int) (t4 : Int) (t5 : Int) (t6 : Int) (t7 : List (List AV)) (t9 : Bool) (t10 : Int) : St :=
  { t := [(1, .rp [.int .i64, .int .i64, .int .i64, .sl 31] [.i .i64 ra, .i .i64 rb, .i .i64 rc, .rs 31 ps] 0), (2, .b t2), (3, .i .i64 t3), (4, .i .i64 t4), (5, .i .i64 t5), (6, .i .i64 t6), (7, .rs 3 t7), (9, .b t9), (10, .i .i64 t10)], m := [], nx := 0, nt := 100 }
noncomputable def ou12aa (ra : Int) (rb : Int) (rc : Int) (ps : List (List AV)) (t2 : Bool) (t3 : Int) (t4 : Int) (t5 : Int) (t6 : Int) (t7 : List (List AV)) : T12aa → Ex × St
  | .x0 t9 t10 => (.ext 2, o12aa_0 ra rb rc ps t2 t3 t4 t5 t6 t7 t9 t10)
noncomputable def r12aa (ra : Int) (rb : Int) (rc : Int) (ps : List (List AV)) (t2 : Bool) (t3 : Int) (t4 : Int) (t5 : Int) (t6 : Int) (t7 : List (List AV)) (t9 : Bool) (t10 : Int) : Option T12aa := run (fun x => stp12aa ra rb rc ps t2 t3 t4 t5 t6 t7 x.t9 x.t10) (⟨t9, t10⟩ : S12aa)
noncomputable def i12aa_0 (ra : Int) (rb : Int) (rc : Int) (ps : List (List AV)) (t2 : Bool) (t3 : Int) (t4 : Int) (t5 : Int) (t6 : Int) (t7 : List (List AV)) (t9 : Bool) (t10 : Int) : Bool := match r12aa ra rb rc ps t2 t3 t4 t5 t6 t7 t9 t10 with
  | some (.x0 _ _) => true
  | _ => false
noncomputable def v12aa_0_t9 (ra : Int) (rb : Int) (rc : Int) (ps : List (List AV)) (t2 : Bool) (t3 : Int) (t4 : Int) (t5 : Int) (t6 : Int) (t7 : List (List AV)) (t9 : Bool) (t10 : Int) : Bool := match r12aa ra rb rc ps t2 t3 t4 t5 t6 t7 t9 t10 with
  | some (.x0 t9 _) => t9
  | _ => default
noncomputable def v12aa_0_t10 (ra : Int) (rb : Int) (rc : Int) (ps : List (List AV)) (t2 : Bool) (t3 : Int) (t4 : Int) (t5 : Int) (t6 : Int) (t7 : List (List AV)) (t9 : Bool) (t10 : Int) : Int := match r12aa ra rb rc ps t2 t3 t4 t5 t6 t7 t9 t10 with
  | some (.x0 _ t10) => t10
  | _ => default
noncomputable def l12aa (st : St) : Option (List (Bool × Ex × St)) := match normW Try.prog [(1, none), (2, none), (3, none), (4, none), (5, none), (6, none), (7, none), (9, none), (10, none)] 0 st with
  | some ([.rp [.int .i64, .int .i64, .int .i64, .sl 31] [.i .i64 ra, .i .i64 rb, .i .i64 rc, .rs 31 ps] 0, .b t2, .i .i64 t3, .i .i64 t4, .i .i64 t5, .i .i64 t6, .rs 3 t7, .b t9, .i .i64 t10], [], 0, 100) => some [(i12aa_0 ra rb rc ps t2 t3 t4 t5 t6 t7 t9 t10, .ext 2, o12aa_0 ra rb rc ps t2 t3 t4 t5 t6 t7 (v12aa_0_t9 ra rb rc ps t2 t3 t4 t5 t6 t7 t9 t10) (v12aa_0_t10 ra rb rc ps t2 t3 t4 t5 t6 t7 t9 t10))]
  | _ => none
structure S12a where
  t5 : Int
  t6 : Int
inductive T12a where
  | x0 (t2' : Bool) (t5 : Int) (t6 : Int)
  | x1 (t5 : Int) (t6 : Int)
noncomputable def stp12a (ra : Int) (rb : Int) (rc : Int) (ps : List (List AV)) (t2 : Bool) (t3 : Int) (t4 : Int) (t5 : Int) (t6 : Int) : Lp S12a T12a :=
  cond (decide (t6 < t3)) (cond (g40 ra rb rc ps t6) (cond (w40_1 ra rb rc ps t6 != 0) (.out (.x0 false t5 t6)) (cond (i12aa_0 ra rb rc ps t2 t3 t4 t5 t6 (w40_0 ra rb rc ps t6) true 0) (cond (v12aa_0_t9 ra rb rc ps t2 t3 t4 t5 t6 (w40_0 ra rb rc ps t6) true 0) (.go ⟨IntKind.i64.wrap (t5 + 1), IntKind.i64.wrap (t6 + 1)⟩) (.go ⟨t5, IntKind.i64.wrap (t6 + 1)⟩)) (.bad))) (.bad)) (.out (.x1 t5 t6))
noncomputable def o12a_0 (ra : Int) (rb : Int) (rc : Int) (ps : List (List AV)) (t2 : Bool) (t3 : Int) (t4 : Int) (t2' : Bool) (t5 : Int) (t6 : Int) : St :=
  { t := [(1, .rp [.int .i64, .int .i64, .int .i64, .sl 31] [.i .i64 ra, .i .i64 rb, .i .i64 rc, .rs 31 ps] 0), (2, .b t2'), (3, .i .i64 t3), (4, .i .i64 t4), (5, .i .i64 t5), (6, .i .i64 t6)], m := [], nx := 0, nt := 100 }
noncomputable def o12a_1 (ra : Int) (rb : Int) (rc : Int) (ps : List (List AV)) (t2 : Bool) (t3 : Int) (t4 : Int) (t5 : Int) (t6 : Int) : St :=
  { t := [(1, .rp [.int .i64, .int .i64, .int .i64, .sl 31] [.i .i64 ra, .i .i64 rb, .i .i64 rc, .rs 31 ps] 0), (2, .b t2), (3, .i .i64 t3), (4, .i .i64 t4), (5, .i .i64 t5), (6, .i .i64 t6)], m := [], nx := 0, nt := 100 }
noncomputable def ou12a (ra : Int) (rb : Int) (rc : Int) (ps : List (List AV)) (t2 : Bool) (t3 : Int) (t4 : Int) : T12a → Ex × St
  | .x0 t2' t5 t6 => (.ret, o12a_0 ra rb rc ps t2 t3 t4 t2' t5 t6)
  | .x1 t5 t6 => (.ext 0, o12a_1 ra rb rc ps t2 t3 t4 t5 t6)
noncomputable def r12a (ra : Int) (rb : Int) (rc : Int) (ps : List (List AV)) (t2 : Bool) (t3 : Int) (t4 : Int) (t5 : Int) (t6 : Int) : Option T12a := run (fun x => stp12a ra rb rc ps t2 t3 t4 x.t5 x.t6) (⟨t5, t6⟩ : S12a)
noncomputable def i12a_0 (ra : Int) (rb : Int) (rc : Int) (ps : List (List AV)) (t2 : Bool) (t3 : Int) (t4 : Int) (t5 : Int) (t6 : Int) : Bool := match r12a ra rb rc ps t2 t3 t4 t5 t6 with
  | some (.x0 _ _ _) => true
  | _ => false
noncomputable def v12a_0_t2' (ra : Int) (rb : Int) (rc : Int) (ps : List (List AV)) (t2 : Bool) (t3 : Int) (t4 : Int) (t5 : Int) (t6 : Int) : Bool := match r12a ra rb rc ps t2 t3 t4 t5 t6 with
  | some (.x0 t2' _ _) => t2'
  | _ => default
noncomputable def v12a_0_t5 (ra : Int) (rb : Int) (rc : Int) (ps : List (List AV)) (t2 : Bool) (t3 : Int) (t4 : Int) (t5 : Int) (t6 : Int) : Int := match r12a ra rb rc ps t2 t3 t4 t5 t6 with
  | some (.x0 _ t5 _) => t5
  | _ => default
noncomputable def v12a_0_t6 (ra : Int) (rb : Int) (rc : Int) (ps : List (List AV)) (t2 : Bool) (t3 : Int) (t4 : Int) (t5 : Int) (t6 : Int) : Int := match r12a ra rb rc ps t2 t3 t4 t5 t6 with
  | some (.x0 _ _ t6) => t6
  | _ => default
noncomputable def i12a_1 (ra : Int) (rb : Int) (rc : Int) (ps : List (List AV)) (t2 : Bool) (t3 : Int) (t4 : Int) (t5 : Int) (t6 : Int) : Bool := match r12a ra rb rc ps t2 t3 t4 t5 t6 with
  | some (.x1 _ _) => true
  | _ => false
noncomputable def v12a_1_t5 (ra : Int) (rb : Int) (rc : Int) (ps : List (List AV)) (t2 : Bool) (t3 : Int) (t4 : Int) (t5 : Int) (t6 : Int) : Int := match r12a ra rb rc ps t2 t3 t4 t5 t6 with
  | some (.x1 t5 _) => t5
  | _ => default
noncomputable def v12a_1_t6 (ra : Int) (rb : Int) (rc : Int) (ps : List (List AV)) (t2 : Bool) (t3 : Int) (t4 : Int) (t5 : Int) (t6 : Int) : Int := match r12a ra rb rc ps t2 t3 t4 t5 t6 with
  | some (.x1 _ t6) => t6
  | _ => default
noncomputable def l12a (st : St) : Option (List (Bool × Ex × St)) := match normW Try.prog [(1, none), (2, none), (3, none), (4, none), (5, none), (6, none)] 0 st with
  | some ([.rp [.int .i64, .int .i64, .int .i64, .sl 31] [.i .i64 ra, .i .i64 rb, .i .i64 rc, .rs 31 ps] 0, .b t2, .i .i64 t3, .i .i64 t4, .i .i64 t5, .i .i64 t6], [], 0, 100) => some [(i12a_0 ra rb rc ps t2 t3 t4 t5 t6, .ret, o12a_0 ra rb rc ps t2 t3 t4 (v12a_0_t2' ra rb rc ps t2 t3 t4 t5 t6) (v12a_0_t5 ra rb rc ps t2 t3 t4 t5 t6) (v12a_0_t6 ra rb rc ps t2 t3 t4 t5 t6)), (i12a_1 ra rb rc ps t2 t3 t4 t5 t6, .ext 0, o12a_1 ra rb rc ps t2 t3 t4 (v12a_1_t5 ra rb rc ps t2 t3 t4 t5 t6) (v12a_1_t6 ra rb rc ps t2 t3 t4 t5 t6))]
  | _ => none
noncomputable def L12 : LSpec := fun p st => match p with
  | [false, true, false, true, true, true, false, false, true, false, false, true, false, true, true, true, true, true] => l12aa st
  | [false, true, false, true, true, true, true, true] => l12a st
  | _ => none
theorem is12aa_0 (ra : Int) (rb : Int) (rc : Int) (ps : List (List AV)) (t2 : Bool) (t3 : Int) (t4 : Int) (t5 : Int) (t6 : Int) (t7 : List (List AV)) (t9 : Bool) (t10 : Int) (h : i12aa_0 ra rb rc ps t2 t3 t4 t5 t6 t7 t9 t10 = true) : r12aa ra rb rc ps t2 t3 t4 t5 t6 t7 t9 t10 = some (.x0 (v12aa_0_t9 ra rb rc ps t2 t3 t4 t5 t6 t7 t9 t10) (v12aa_0_t10 ra rb rc ps t2 t3 t4 t5 t6 t7 t9 t10)) := by
  unfold i12aa_0 at h
  unfold v12aa_0_t9 v12aa_0_t10
  generalize r12aa ra rb rc ps t2 t3 t4 t5 t6 t7 t9 t10 = r at h ⊢
  rcases r with _ | y
  · cases h
  · cases y <;> first | rfl | cases h
theorem round12aa (ra : Int) (rb : Int) (rc : Int) (ps : List (List AV)) (t2 : Bool) (t3 : Int) (t4 : Int) (t5 : Int) (t6 : Int) (t7 : List (List AV)) (t9 : Bool) (t10 : Int) : round Try.prog SE (ro 12) L12 lp12aa [false, true, false, true, true, true, false, false, true, false, false, true, false, true, true, true, true, true] [(1, none), (2, none), (3, none), (4, none), (5, none), (6, none), (7, none), (9, none), (10, none)] 0 (s12aa ra rb rc ps t2 t3 t4 t5 t6 t7 t9 t10) =
    cond (decide (t10 < (↑t7.length : Int))) (cond (inb t10 t7.length) (cond (inb (IntKind.i64.wrap (IntKind.i64.wrap ((↑t7.length : Int) - 1) - t10)) t7.length) (cond (t9) (cond (decide (fI (t7.getD t10.toNat []) 0 ≥ 0)) (cond (decide (fI (t7.getD t10.toNat []) 0 < (↑ps.length : Int))) (cond (inb (fI (t7.getD t10.toNat []) 0) ps.length) (some (.nrm, s12aa ra rb rc ps t2 t3 t4 t5 t6 t7 (fI (ps.getD (fI (t7.getD t10.toNat []) 0).toNat []) 4 == fI (t7.getD (IntKind.i64.wrap (IntKind.i64.wrap ((↑t7.length : Int) - 1) - t10)).toNat []) 0) (IntKind.i64.wrap (t10 + 1)))) (none)) (some (.nrm, s12aa ra rb rc ps t2 t3 t4 t5 t6 t7 false (IntKind.i64.wrap (t10 + 1))))) (some (.nrm, s12aa ra rb rc ps t2 t3 t4 t5 t6 t7 false (IntKind.i64.wrap (t10 + 1))))) (some (.nrm, s12aa ra rb rc ps t2 t3 t4 t5 t6 t7 false (IntKind.i64.wrap (t10 + 1))))) (none)) (none)) (some (.ext 2, o12aa_0 ra rb rc ps t2 t3 t4 t5 t6 t7 t9 t10)) := by kernel_rfl
theorem rnd12aa (ra : Int) (rb : Int) (rc : Int) (ps : List (List AV)) (t2 : Bool) (t3 : Int) (t4 : Int) (t5 : Int) (t6 : Int) (t7 : List (List AV)) (x : S12aa) : round Try.prog SE (ro 12) L12 lp12aa [false, true, false, true, true, true, false, false, true, false, false, true, false, true, true, true, true, true] [(1, none), (2, none), (3, none), (4, none), (5, none), (6, none), (7, none), (9, none), (10, none)] 0 ((fun x => s12aa ra rb rc ps t2 t3 t4 t5 t6 t7 x.t9 x.t10) x) = toR (fun x => s12aa ra rb rc ps t2 t3 t4 t5 t6 t7 x.t9 x.t10) (ou12aa ra rb rc ps t2 t3 t4 t5 t6 t7) (stp12aa ra rb rc ps t2 t3 t4 t5 t6 t7 x.t9 x.t10) := by
  refine (round12aa _ _ _ _ _ _ _ _ _ _ _ _ ).trans ?_
  unfold stp12aa
  simp only [toR_cond]
  rfl
theorem lok12aa {st : St} {outs : List (Bool × Ex × St)} {e : Ex} {s : St} (hl : l12aa st = some outs) (hch : Chosen outs e s) :
    ∃ keep nb, 0 ≤ nb ∧ LB Try.prog SE (ro 12) L12 lp12aa [false, true, false, true, true, true, false, false, true, false, false, true, false, true, true, true, true, true] keep nb st e s := by
  unfold l12aa at hl
  split at hl
  · rename_i ra rb rc ps t2 t3 t4 t5 t6 t7 t9 t10 hno
    cases hl
    have hno := normW_norm hno
    refine ⟨_, _, ?_, .enter hno ?_⟩
    · decide
    have main := fun y h => LB_run (x := (⟨t9, t10⟩ : S12aa)) (y := y) (nb := 0) (fun y => by cases y <;> simp [ou12aa]) (rnd12aa ra rb rc ps t2 t3 t4 t5 t6 t7) h
    obtain ⟨x, hx, hg, rfl, rfl⟩ := chosen_any hch
    simp only [List.mem_cons, List.not_mem_nil, or_false] at hx
    subst hx
    exact main _ (is12aa_0 ra rb rc ps t2 t3 t4 t5 t6 t7 t9 t10 hg)
  · cases hl
theorem is12a_0 (ra : Int) (rb : Int) (rc : Int) (ps : List (List AV)) (t2 : Bool) (t3 : Int) (t4 : Int) (t5 : Int) (t6 : Int) (h : i12a_0 ra rb rc ps t2 t3 t4 t5 t6 = true) : r12a ra rb rc ps t2 t3 t4 t5 t6 = some (.x0 (v12a_0_t2' ra rb rc ps t2 t3 t4 t5 t6) (v12a_0_t5 ra rb rc ps t2 t3 t4 t5 t6) (v12a_0_t6 ra rb rc ps t2 t3 t4 t5 t6)) := by
  unfold i12a_0 at h
  unfold v12a_0_t2' v12a_0_t5 v12a_0_t6
  generalize r12a ra rb rc ps t2 t3 t4 t5 t6 = r at h ⊢
  rcases r with _ | y
  · cases h
  · cases y <;> first | rfl | cases h
theorem is12a_1 (ra : Int) (rb : Int) (rc : Int) (ps : List (List AV)) (t2 : Bool) (t3 : Int) (t4 : Int) (t5 : Int) (t6 : Int) (h : i12a_1 ra rb rc ps t2 t3 t4 t5 t6 = true) : r12a ra rb rc ps t2 t3 t4 t5 t6 = some (.x1 (v12a_1_t5 ra rb rc ps t2 t3 t4 t5 t6) (v12a_1_t6 ra rb rc ps t2 t3 t4 t5 t6)) := by
  unfold i12a_1 at h
  unfold v12a_1_t5 v12a_1_t6
  generalize r12a ra rb rc ps t2 t3 t4 t5 t6 = r at h ⊢
  rcases r with _ | y
  · cases h
  · cases y <;> first | rfl | cases h
theorem round12a (ra : Int) (rb : Int) (rc : Int) (ps : List (List AV)) (t2 : Bool) (t3 : Int) (t4 : Int) (t5 : Int) (t6 : Int) : round Try.prog SE (ro 12) L12 lp12a [false, true, false, true, true, true, true, true] [(1, none), (2, none), (3, none), (4, none), (5, none), (6, none)] 0 (s12a ra rb rc ps t2 t3 t4 t5 t6) =
    cond (decide (t6 < t3)) (cond (g40 ra rb rc ps t6) (cond (w40_1 ra rb rc ps t6 != 0) (some (.ret, o12a_0 ra rb rc ps t2 t3 t4 false t5 t6)) (cond (i12aa_0 ra rb rc ps t2 t3 t4 t5 t6 (w40_0 ra rb rc ps t6) true 0) (cond (v12aa_0_t9 ra rb rc ps t2 t3 t4 t5 t6 (w40_0 ra rb rc ps t6) true 0) (some (.nrm, s12a ra rb rc ps t2 t3 t4 (IntKind.i64.wrap (t5 + 1)) (IntKind.i64.wrap (t6 + 1)))) (some (.nrm, s12a ra rb rc ps t2 t3 t4 t5 (IntKind.i64.wrap (t6 + 1))))) (none))) (none)) (some (.ext 0, o12a_1 ra rb rc ps t2 t3 t4 t5 t6)) := by kernel_rfl
theorem rnd12a (ra : Int) (rb : Int) (rc : Int) (ps : List (List AV)) (t2 : Bool) (t3 : Int) (t4 : Int) (x : S12a) : round Try.prog SE (ro 12) L12 lp12a [false, true, false, true, true, true, true, true] [(1, none), (2, none), (3, none), (4, none), (5, none), (6, none)] 0 ((fun x => s12a ra rb rc ps t2 t3 t4 x.t5 x.t6) x) = toR (fun x => s12a ra rb rc ps t2 t3 t4 x.t5 x.t6) (ou12a ra rb rc ps t2 t3 t4) (stp12a ra rb rc ps t2 t3 t4 x.t5 x.t6) := by
  refine (round12a _ _ _ _ _ _ _ _ _ ).trans ?_
  unfold stp12a
  simp only [toR_cond]
  rfl
theorem lok12a {st : St} {outs : List (Bool × Ex × St)} {e : Ex} {s : St} (hl : l12a st = some outs) (hch : Chosen outs e s) :
    ∃ keep nb, 0 ≤ nb ∧ LB Try.prog SE (ro 12) L12 lp12a [false, true, false, true, true, true, true, true] keep nb st e s := by
  unfold l12a at hl
  split at hl
  · rename_i ra rb rc ps t2 t3 t4 t5 t6 hno
    cases hl
    have hno := normW_norm hno
    refine ⟨_, _, ?_, .enter hno ?_⟩
    · decide
    have main := fun y h => LB_run (x := (⟨t5, t6⟩ : S12a)) (y := y) (nb := 0) (fun y => by cases y <;> simp [ou12a]) (rnd12a ra rb rc ps t2 t3 t4) h
    obtain ⟨x, hx, hg, rfl, rfl⟩ := chosen_any hch
    simp only [List.mem_cons, List.not_mem_nil, or_false] at hx
    rcases hx with rfl | rfl
    · exact main _ (is12a_0 ra rb rc ps t2 t3 t4 t5 t6 hg)
    · exact main _ (is12a_1 ra rb rc ps t2 t3 t4 t5 t6 hg)
  · cases hl
theorem L12_ok (q : Pl) (c : Code) (hq : locate c12 q.reverse = some (.loop c)) (st : St) (outs : List (Bool × Ex × St)) (e : Ex) (s : St) (hl : L12 q st = some outs) (hch : Chosen outs e s) :
    ∃ keep nb, 0 ≤ nb ∧ LB Try.prog SE (ro 12) L12 c q keep nb st e s := by
  unfold L12 at hl
  split at hl
  · have : locate c12 ([false, true, false, true, true, true, false, false, true, false, false, true, false, true, true, true, true, true] : Pl).reverse = some (.loop lp12aa) := by kernel_rfl
    rw [this] at hq
    cases hq
    exact lok12aa hl hch
  · have : locate c12 ([false, true, false, true, true, true, true, true] : Pl).reverse = some (.loop lp12a) := by kernel_rfl
    rw [this] at hq
    cases hq
    exact lok12a hl hch
  · cases hl
theorem lok12 : LOK Try.prog SE (ro 12) L12 0 false c12 [] :=
  lok_lo L12_ok c12 [] false (locate_nil _) (by kernel_rfl)
noncomputable def t12 (ra rb rc : Int) (ps : List (List AV)) : Tr ((Bool)) :=
  .cn (g18 ra rb rc ps) (.cn (w18_0 ra rb rc ps) (.lf (true)) (.cn (g20 ra rb rc ps) (.cn (w20_1 ra rb rc ps != 0) (.lf (true)) (.cn (decide (w20_0 ra rb rc ps > 200)) (.lf (true)) (.cn (i12a_0 ra rb rc ps false (w20_0 ra rb rc ps) (w20_1 ra rb rc ps) 0 0) (.lf (v12a_0_t2' ra rb rc ps false (w20_0 ra rb rc ps) (w20_1 ra rb rc ps) 0 0)) (.cn (i12a_1 ra rb rc ps false (w20_0 ra rb rc ps) (w20_1 ra rb rc ps) 0 0) (.cn (g37 ra rb rc ps) (.cn (w37_1 ra rb rc ps == 0) (.cn (w37_0 ra rb rc ps == v12a_1_t5 ra rb rc ps false (w20_0 ra rb rc ps) (w20_1 ra rb rc ps) 0 0) (.lf (true)) (.lf (false))) (.lf (false))) (.nn)) (.nn))))) (.nn))) (.nn)
noncomputable def g12 (ra rb rc : Int) (ps : List (List AV)) : Bool := (t12 ra rb rc ps).g
noncomputable def w12_0 (ra rb rc : Int) (ps : List (List AV)) : Bool := (t12 ra rb rc ps).val
theorem eq12 (ra rb rc : Int) (ps : List (List AV)) : evF Try.prog SE (ro 12) L12 Try.f12 [.agg [.i .i64 ra, .i .i64 rb, .i .i64 rc, .rs 31 ps]] = (t12 ra rb rc ps).opt (fun (x : (Bool)) => (.b x : AV)) := by kernel_rfl
theorem con12 (ra rb rc : Int) (ps : List (List AV)) (h : g12 ra rb rc ps = true) : Con Try.prog 12 [.agg [.i .i64 ra, .i .i64 rb, .i .i64 rc, .rs 31 ps]] [] (.b (w12_0 ra rb rc ps)) [] :=
  con_of SE_ok mixed Try.func12 (c := c12) rfl (names 12 _ Try.func12) lok12 ((eq12 ra rb rc ps).trans (Tr.sound _ _ h))
noncomputable def e12 (args : List AV) (rows : List Blk) : Option (Bool × AV × List Blk) := match args, rows with
  | [.agg [.i .i64 ra, .i .i64 rb, .i .i64 rc, .rs 31 ps]], [] => some (g12 ra rb rc ps, .b (w12_0 ra rb rc ps), [])
  | _, _ => none
theorem e12_ok (args : List AV) (rows : List Blk) (pre : Bool) (v : AV) (rows' : List Blk) (h : e12 args rows = some (pre, v, rows')) (hp : pre = true) : Con Try.prog 12 args rows v rows' := by
  unfold e12 at h
  split at h
  · cases h; exact con12 _ _ _ _ hp
  · cases h
-- SPEC 12
end Go.Proofs.Ytgifjphinkbcaaa

set_option maxRecDepth 100000
set_option linter.unusedVariables false
namespace Go.Proofs.Ytgifjphinkbcaaa
open Go Go.Ev
/-! ### RidgeEven -/
theorem pal_iff (ps : PS) (row : List Nat) : pal ps row ↔ ∀ i, i < row.length → mi ps (row.getD i 0) = row.getD (row.length - 1 - i) 0 := by
  unfold pal
  constructor
  · intro h i hi
    have h1 : (row.map (mi ps)).getD i 0 = row.reverse.getD i 0 := by rw [h]
    have hj : row.length - 1 - i < row.length := by omega
    simpa [List.getD_eq_getElem?_getD, hi, hj, List.getElem?_reverse] using h1
  · intro h
    apply List.ext_getElem
    · simp
    · intro i h1 h2
      have hi : i < row.length := by simpa using h1
      have := h i hi
      have hj : row.length - 1 - i < row.length := by omega
      simp only [List.getElem_map, List.getElem_reverse]
      simpa [List.getD_eq_getElem?_getD, hi, hj] using this
theorem NthR_mem {ps : PS} {c n h : Nat} {x : Int} {row : List Nat} (h1 : NthR ps c n h x row) : ∀ i, i ∈ row → i < ps.length := by
  induction h1 with
  | nil => intro i hi; cases hi
  | cons h0 hi ha hb hr ih =>
    intro j hj
    rcases List.mem_cons.1 hj with rfl | hj
    · exact hi
    · exact ih j hj
theorem rowAV_at {row : List Nat} {i : Nat} (h : i < row.length) : fI ((rowAV row).getD i []) 0 = (row.getD i 0 : Int) := by
  unfold rowAV
  simp [List.getD_eq_getElem?_getD, h, fI]
  rfl
def upto (ps : PS) (row : List Nat) (k : Nat) : Prop := ∀ i, i < k → mi ps (row.getD i 0) = row.getD (row.length - 1 - i) 0
noncomputable instance (ps : PS) (row : List Nat) (k : Nat) : Decidable (upto ps row k) := Classical.propDecidable _
theorem loop12 {ra rb rc t3 t4 t5 t6 : Int} {t2 : Bool} {ps : PS} {row : List Nat} (hps : okPs ps) (hm : Mir ps) (hr : ∀ i, i ∈ row → i < ps.length) (hlen : row.length ≤ 2000) :
    ∃ a, r12aa ra rb rc ps t2 t3 t4 t5 t6 (rowAV row) true 0 = some (.x0 (decide (pal ps row)) a) := by
  have hl := hps.1
  have run : ∃ y, r12aa ra rb rc ps t2 t3 t4 t5 t6 (rowAV row) (decide (upto ps row 0)) ((0 : Nat) : Int) = some y ∧ ∃ a, y = .x0 (decide (pal ps row)) a := by
    unfold r12aa
    refine run_for (S := Unit) row.length (fun k _ => (⟨decide (upto ps row k), (k : Int)⟩ : S12aa)) (fun _ _ => True) (fun _ _ (y : T12aa) => ∃ a, y = .x0 (decide (pal ps row)) a) (fun k _ hk _ => ?_) (fun _ _ => ?_) 0 () (Nat.zero_le _) trivial
    · left
      refine ⟨(), ?_, trivial, fun y hy => hy⟩
      show stp12aa ra rb rc ps t2 t3 t4 t5 t6 (rowAV row) (decide (upto ps row k)) (k : Int) = .go ⟨decide (upto ps row (k + 1)), ((k + 1 : Nat) : Int)⟩
      have hj : row.length - 1 - k < row.length := by omega
      have hv := hr _ (drop_mem 0 hk)
      have ew : IntKind.i64.wrap (IntKind.i64.wrap ((row.length : Int) - 1) - (k : Int)) = ((row.length - 1 - k : Nat) : Int) := by
        rw [wrap64 (x := (row.length : Int) - 1) (by omega) (by omega)]
        exact (wrap64 (by omega) (by omega)).trans (by omega)
      unfold stp12aa
      rw [rowAV_len, ew, lt_true hk, inb_true hk, inb_true hj, Int.toNat_natCast, Int.toNat_natCast, rowAV_at hk, rowAV_at hj, wrap_succ (by omega), inb_true hv, Int.toNat_natCast]
      rw [(mi_ok hps hm hv).1]
      have d1 : decide (((row.getD k 0 : Nat) : Int) ≥ 0) = true := decide_eq_true (by omega)
      have d2 : decide (((row.getD k 0 : Nat) : Int) < (ps.length : Int)) = true := decide_eq_true (by omega)
      rw [d1, d2]
      by_cases hall : upto ps row k
      · rw [decide_eq_true hall]
        by_cases he : mi ps (row.getD k 0) = row.getD (row.length - 1 - k) 0
        · have e1 : (((mi ps (row.getD k 0) : Nat) : Int) == ((row.getD (row.length - 1 - k) 0 : Nat) : Int)) = true := by rw [beq_iff_eq]; omega
          have : decide (upto ps row (k + 1)) = true := decide_eq_true fun i hi => by
            rcases Nat.lt_succ_iff_lt_or_eq.1 hi with h' | rfl
            · exact hall i h'
            · exact he
          rw [e1, this]
          rfl
        · have e1 : (((mi ps (row.getD k 0) : Nat) : Int) == ((row.getD (row.length - 1 - k) 0 : Nat) : Int)) = false := by rw [beq_eq_false_iff_ne]; omega
          have : decide (upto ps row (k + 1)) = false := decide_eq_false fun h' => he (h' k (by omega))
          rw [e1, this]
          rfl
      · have : decide (upto ps row (k + 1)) = false := decide_eq_false fun h' => hall fun i hi => h' i (by omega)
        rw [decide_eq_false hall, this]
        rfl
    · refine ⟨.x0 (decide (upto ps row (row.length))) (row.length : Int), ?_, (row.length : Int), ?_⟩
      · show stp12aa ra rb rc ps t2 t3 t4 t5 t6 (rowAV row) (decide (upto ps row (row.length))) (row.length : Int) = _
        unfold stp12aa
        rw [rowAV_len, lt_false]; rfl
      · congr 1
        rw [decide_eq_decide]
        exact (pal_iff ps row).symm
  obtain ⟨y, h1, a, h2⟩ := run
  have e : decide (upto ps row 0) = true := decide_eq_true fun i hi => by omega
  rw [e] at h1
  exact ⟨a, by rw [← h2]; exact h1⟩
open Classical in
noncomputable def gpal (ps : PS) (c n h : Nat) (x : Nat) : Int := if ∃ row, NthR ps c n h (x : Int) row ∧ pal ps row then 1 else 0
theorem gpal_eq {ps : PS} (hps : okPs ps) {c n h x : Nat} {row : List Nat} (hs : cnt ps c n h ≤ 1000000000000000) (hr : NthR ps c n h (x : Int) row) : gpal ps c n h x = palW ps row := by
  unfold gpal palW
  by_cases hp : pal ps row
  · rw [if_pos hp, if_pos ⟨row, hr, hp⟩]
  · rw [if_neg hp, if_neg]
    rintro ⟨row', hr', hp'⟩
    have := NthR_uniq hps hr hs hr'
    exact hp (this ▸ hp')
theorem pal_ends {ps : PS} (hps : okPs ps) (hm : Mir ps) {c n h : Nat} {x : Int} {row : List Nat} (hs : cnt ps c n h ≤ 1000000000000000) (hr : NthR ps c n h x row) (hp : pal ps row) : h = c := by
  obtain ⟨q1, _⟩ := NthR_fits hps hr hs
  have hmem := NthR_mem hr
  cases row with
  | nil =>
    have hf : ((n : Int) == 0 && (h : Int) == (c : Int)) = true := q1
    rw [Bool.and_eq_true, beq_iff_eq, beq_iff_eq] at hf
    omega
  | cons k r =>
    have q1' : fitsL ps (c : Int) (n : Int) (h : Int) ((k : Int) :: rowI r) = true := q1
    obtain ⟨k', e, hk', h1, _⟩ := fitsL_cons hps q1'
    have : k' = k := by omega
    subst this
    rcases List.eq_nil_or_concat (k' :: r) with h0 | ⟨s, q, hs'⟩
    · cases h0
    · rw [List.concat_eq_append] at hs'
      have hq : q < ps.length := hmem q (by rw [hs']; simp)
      have q2 : fitsL ps (c : Int) (n : Int) (h : Int) (rowI s ++ [(q : Int)]) = true := by
        have : rowI (k' :: r) = rowI s ++ [(q : Int)] := by
          rw [hs']
          unfold rowI
          rw [List.map_append]
          rfl
        rw [← this]
        exact q1
      have h2 := ((fitsL_snoc hps hq).1 q2).1
      have hp2 : (k' :: r).map (mi ps) = (s ++ [q]).reverse := by
        rw [← hs']
        exact hp
      rw [List.reverse_append] at hp2
      have h3 : mi ps k' = q := by
        simp only [List.map_cons, List.reverse_cons, List.reverse_nil, List.nil_append, List.cons_append, List.cons.injEq] at hp2
        exact hp2.1
      obtain ⟨_, _, _, _, _, a5⟩ := mi_ok hps hm hk'
      rw [h3] at a5
      omega
theorem evens_law (ra rb rc : Int) (ps : PS) : g12 ra rb rc ps = true ∧ w12_0 ra rb rc ps = true := by
  unfold g12 w12_0 t12
  rw [g18_true]
  cases w18_0 ra rb rc ps with
  | true => exact ⟨rfl, rfl⟩
  | false =>
  obtain ⟨v0, _⟩ := ways_same ra rb rc ps
  rw [v0]
  by_cases h0 : w29_0 ra rb rc ps = 0
  · have hF := fine_of h0
    obtain ⟨n, b, c, rfl, rfl, rfl, hn, hb, hc⟩ := fine_nat hF
    have hps := hF.ps
    have hm : Mir ps := (check_eq (n : Int) (b : Int) (c : Int) ps).2.2 h0
    obtain ⟨v1, v2⟩ := ways_nat hps hn hb hc h0
    rcases v2 with ⟨_, v2, v3⟩ | ⟨hs, v2, v3⟩
    · have z1 : ((3 : Int) != 0) = true := by decide
      rw [v2, z1]
      exact ⟨rfl, rfl⟩
    · have z1 : ((0 : Int) != 0) = false := by decide
      rw [v2, v3, z1]
      have hco := cnt_ok ps c n b
      by_cases h200 : cnt ps c n b > 200
      · rw [decide_eq_true h200]
        exact ⟨rfl, rfl⟩
      rw [decide_eq_false h200]
      obtain ⟨N, hN⟩ : ∃ N : Nat, cnt ps c n b = (N : Int) := ⟨(cnt ps c n b).toNat, by omega⟩
      have hN200 : N ≤ 200 := by omega
      have gbd : ∀ j, 0 ≤ gpal ps c n b j ∧ gpal ps c n b j ≤ 1 := fun j => by
        unfold gpal
        split <;> omega
      have hrows : ∀ x : Nat, (x : Int) < cnt ps c n b → ∃ row, NthR ps c n b (x : Int) row ∧ gpal ps c n b x = palW ps row ∧ row.length ≤ 2000 ∧ g40 (n : Int) (b : Int) (c : Int) ps (x : Int) = true ∧ w40_1 (n : Int) (b : Int) (c : Int) ps (x : Int) = 0 ∧ w40_0 (n : Int) (b : Int) (c : Int) ps (x : Int) = rowAV row := fun x hx => by
        obtain ⟨row, hr, ⟨a1, a2, a3⟩, _⟩ := nth_val (x := (x : Int)) hps hn hb hc h0 hs ⟨by omega, hx⟩
        have := NthR_len hps hr hs
        exact ⟨row, hr, gpal_eq hps hs hr, by omega, a1, a2, a3⟩
      have run : ∃ y, r12a (n : Int) (b : Int) (c : Int) ps false (N : Int) 0 (sumTo (gpal ps c n b) 0) ((0 : Nat) : Int) = some y ∧ ∃ a, y = .x1 (sumTo (gpal ps c n b) N) a := by
        unfold r12a
        refine run_for (S := Unit) N (fun k _ => (⟨sumTo (gpal ps c n b) k, (k : Int)⟩ : S12a)) (fun _ _ => True) (fun _ _ (y : T12a) => ∃ a, y = .x1 (sumTo (gpal ps c n b) N) a) (fun k _ hk _ => ?_) (fun _ _ => ?_) 0 () (Nat.zero_le _) trivial
        · left
          refine ⟨(), ?_, trivial, fun y hy => hy⟩
          obtain ⟨row, hr, hg, hlen, a1, a2, a3⟩ := hrows k (by omega)
          have hsb := sum_bd (f := gpal ps c n b) (k := k) (fun j _ => gbd j)
          obtain ⟨a, ha⟩ := loop12 (ra := (n : Int)) (rb := (b : Int)) (rc := (c : Int)) (t3 := (N : Int)) (t4 := 0) (t5 := sumTo (gpal ps c n b) k) (t6 := (k : Int)) (t2 := false) hps hm (NthR_mem hr) hlen
          have hsu : sumTo (gpal ps c n b) (k + 1) = sumTo (gpal ps c n b) k + gpal ps c n b k := rfl
          show stp12a (n : Int) (b : Int) (c : Int) ps false (N : Int) 0 (sumTo (gpal ps c n b) k) (k : Int) = .go ⟨sumTo (gpal ps c n b) (k + 1), ((k + 1 : Nat) : Int)⟩
          unfold stp12a i12aa_0 v12aa_0_t9
          rw [lt_true hk, a1, a2, a3, z1, ha, wrap_succ (by omega), hsu, hg]
          simp only
          unfold palW
          by_cases hp : pal ps row
          · rw [decide_eq_true hp, if_pos hp, wrap64 (by omega) (by omega)]
            rfl
          · rw [decide_eq_false hp, if_neg hp, Int.add_zero]
            rfl
        · refine ⟨.x1 (sumTo (gpal ps c n b) N) (N : Int), ?_, (N : Int), rfl⟩
          show stp12a (n : Int) (b : Int) (c : Int) ps false (N : Int) 0 (sumTo (gpal ps c n b) N) (N : Int) = _
          unfold stp12a
          rw [lt_false]; rfl
      obtain ⟨y, r1, a, r2⟩ := run
      have r3 : r12a (n : Int) (b : Int) (c : Int) ps false (N : Int) 0 0 0 = some y := r1
      -- the sum
      have hcount := wR_count hps n b (palW ps) (gpal ps c n b) hs (fun x hx => by
        obtain ⟨row, hr, hg, _⟩ := hrows x hx
        exact ⟨row, hr, hg⟩)
      rw [hN, Int.toNat_natCast] at hcount
      have hev : g37 (n : Int) (b : Int) (c : Int) ps = true ∧ w37_1 (n : Int) (b : Int) (c : Int) ps = 0 ∧ w37_0 (n : Int) (b : Int) (c : Int) ps = sumTo (gpal ps c n b) N := by
        by_cases hbc : b = c
        · subst hbc
          obtain ⟨⟨a1, a2, a3⟩, _⟩ := even_val hF hn hb h0 hs
          refine ⟨a1, a2, ?_⟩
          rw [a3, hcount]
          exact (PE_EE hps hm n b hb).symm
        · have hz : sumTo (gpal ps c n b) N = 0 := sumTo_null fun x hx => by
            obtain ⟨row, hr, hg, _⟩ := hrows x (by omega)
            rw [hg]
            exact if_neg fun hp => hbc (pal_ends hps hm hs hr hp)
          rw [hz]
          obtain ⟨g1, g2, g3⟩ := counted_val hps hn hb hc h0
          rcases g3 with ⟨h1, _⟩ | ⟨_, h1, h2, h3, h4⟩
          · omega
          have z2 : ((b : Int) != (c : Int)) = true := by rw [bne_iff_ne]; omega
          unfold g37 w37_0 w37_1 t37
          rw [g1, h1, z1, z2]
          exact ⟨rfl, rfl, rfl⟩
      unfold i12a_0 i12a_1 v12a_0_t2' v12a_1_t5
      rw [hN, r3, r2, hev.1, hev.2.1, hev.2.2]
      simp only
      have e4 : ∀ b : Int, (b == b) = true := by simp
      rw [e4, e4]
      exact ⟨rfl, rfl⟩
  · obtain ⟨g1, g2⟩ := ways_err h0
    have hz : (w20_1 ra rb rc ps != 0) = true := by simpa using g2
    rw [hz]
    exact ⟨rfl, rfl⟩
theorem ridgeEven_law (avs : List AV) (h : TyArgs Try.prog Try.f12.params.toList avs) : Con Try.prog 12 avs [] (.b true) [] := by
  obtain ⟨a0, r0, rfl, h0, h⟩ := tyArgs_cons h
  obtain rfl := tyArgs_nil h
  obtain ⟨ra, rb, rc, ps, rfl, _⟩ := ridge_of h0
  obtain ⟨h1, h2⟩ := evens_law ra rb rc ps
  have := con12 ra rb rc ps h1
  rw [h2] at this
  exact this
end Go.Proofs.Ytgifjphinkbcaaa
