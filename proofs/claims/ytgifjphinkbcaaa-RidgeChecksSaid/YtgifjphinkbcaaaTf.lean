/-
  The law RidgeChecks of the roofer's ridges answers true whatever Ridge and whatever row it is handed; no conditions.
-/
import Derived.Test.YtgifjphinkbcaaaTe
import Derived.Test.YtgifjphinkbcaaaTc
import Derived.Test.YtgifjphinkbcaaaTd
set_option linter.unusedVariables false
set_option maxRecDepth 100000
set_option linter.unusedVariables false
namespace Go.Proofs.Ytgifjphinkbcaaa
open Go Go.Ev
/-! ### Great -/
theorem g18_true (ra rb rc : Int) (ps : List (List AV)) : g18 ra rb rc ps = true := by
  have key : ∀ (n k : Nat) (t : Int), 31 - k = n → k ≤ 31 → ∃ y, run (fun x : S18a => stp18a ra rb rc ps false x.t3 x.t4) ⟨t, (k : Int)⟩ = some y := by
    intro n
    induction n with
    | zero =>
      intro k t hn hk
      have : k = 31 := by omega
      subst this
      have h2 : decide ((31 : Int) ≤ 30) = false := by decide
      cases hl : decide ((31 : Int) < (ps.length : Int)) with
      | true => exact ⟨_, run_out (by show stp18a ra rb rc ps false t 31 = _; unfold stp18a; rw [hl, h2]; rfl)⟩
      | false => exact ⟨_, run_out (by show stp18a ra rb rc ps false t 31 = _; unfold stp18a; rw [hl]; rfl)⟩
    | succ n ih =>
      intro k t hn hk
      cases hl : decide ((k : Int) < (ps.length : Int)) with
      | false => exact ⟨_, run_out (by show stp18a ra rb rc ps false t (k : Int) = _; unfold stp18a; rw [hl]; rfl)⟩
      | true =>
        have hk30 : decide ((k : Int) ≤ 30) = true := decide_eq_true (by omega)
        have hi : inb (k : Int) ps.length = true := by
          rw [inb_nat]
          have := of_decide_eq_true hl
          exact decide_eq_true (by omega)
        have ew : IntKind.i64.wrap ((k : Int) + 1) = ((k + 1 : Nat) : Int) := (wrap64 (by omega) (by omega)).trans (by omega)
        obtain ⟨y, hy⟩ := ih (k + 1) (IntKind.i64.wrap (t + ((fS (ps.getD (k : Int).toNat []) 0).size : Int))) (by omega) (by omega)
        refine ⟨y, (run_go ?_).trans hy⟩
        show stp18a ra rb rc ps false t (k : Int) = _
        unfold stp18a
        rw [hl, hk30, hi, ew]
        rfl
  obtain ⟨y, hy⟩ := key 31 0 0 rfl (by omega)
  have hy' : r18a ra rb rc ps false 0 0 = some y := hy
  unfold g18 t18 i18a_0
  rw [hy']
  cases y
  cases decide (ra > 300) <;> cases decide (ra ≤ 2000) <;> cases decide ((ps.length : Int) > 30) <;> rfl
theorem take_acc {ps : List (List AV)} {T : Nat → Nat → Int} {i h k : Nat} (hk : k < ps.length) : (ps.take (k + 1)).foldl (acc T i h) 0 = acc T i h ((ps.take k).foldl (acc T i h) 0) (ps.getD k []) := by
  have : ps.take (k + 1) = ps.take k ++ [ps.getD k []] := by
    rw [List.take_add_one, List.getElem?_eq_getElem hk]
    simp [List.getD_eq_getElem?_getD, List.getElem?_eq_getElem hk]
  rw [this, List.foldl_append]
  rfl
theorem take_le {ps : List (List AV)} {T : Nat → Nat → Int} {i h : Nat} (hT : okT T) (k : Nat) : (ps.take k).foldl (acc T i h) 0 ≤ ps.foldl (acc T i h) 0 ∧ 0 ≤ (ps.take k).foldl (acc T i h) 0 := by
  have h0 : (0 : Int) ≤ cap := by unfold cap; omega
  obtain ⟨h1, h2⟩ := acc_fold (i := i) (h := h) hT (ps.take k) h0
  have := (acc_fold (i := i) (h := h) hT (ps.drop k) h2).1
  rw [← List.foldl_append, List.take_append_drop] at this
  exact ⟨this, h1⟩
/-- The ways through the first piece. -/
theorem first_sum {ps : List (List AV)} {m b c : Nat} (hps : okPs ps) (hm : m + 1 ≤ 2000) (hb : b < 10) (hc : c < 10) (hw : ∀ n' b' : Nat, n' ≤ 2000 → b' ≤ 9 → w29_0 (n' : Int) (b' : Int) (c : Int) ps = 0) (hv : cnt ps c (m + 1) b ≤ 1000000000000000) :
    r3a ((m + 1 : Nat) : Int) (b : Int) (c : Int) ps false (cnt ps c (m + 1) b) 0 0 = some (.x1 (cnt ps c (m + 1) b) (ps.length : Int)) := by
  have hT : okT (fun k => cnt ps c k) := fun n h => cnt_ok ps c n h
  have hrec := cnt_rec (n := m) (c := c) (h := b) hps
  unfold r3a
  have := run_from0 (step := fun x : S3a => stp3a ((m + 1 : Nat) : Int) (b : Int) (c : Int) ps false (cnt ps c (m + 1) b) x.t5 x.t6) (y := .x1 (cnt ps c (m + 1) b) (ps.length : Int)) (m := ps.length)
    (fun k => ⟨(ps.take k).foldl (acc (fun k => cnt ps c k) (m + 1) b) 0, (k : Int)⟩) (fun k hk => ?_) ?_
  · exact this
  · have hl := hps.1
    have hm' : ps.getD k [] ∈ ps := by
      simp only [List.getD_eq_getElem?_getD, List.getElem?_eq_getElem hk, Option.getD_some]
      exact List.getElem_mem hk
    obtain ⟨b1, b2, b3, b4, b5, b6⟩ := hps.2 _ hm'
    obtain ⟨t1, t2⟩ := take_le (ps := ps) (i := m + 1) (h := b) hT k
    obtain ⟨t3, _⟩ := take_le (ps := ps) (i := m + 1) (h := b) hT (k + 1)
    rw [← hrec] at t1 t3
    rw [take_acc hk] at t3
    show stp3a ((m + 1 : Nat) : Int) (b : Int) (c : Int) ps false (cnt ps c (m + 1) b) ((ps.take k).foldl (acc (fun k => cnt ps c k) (m + 1) b) 0) (k : Int) = .go ⟨(ps.take (k + 1)).foldl (acc (fun k => cnt ps c k) (m + 1) b) 0, ((k + 1 : Nat) : Int)⟩
    rw [take_acc hk]
    generalize (ps.take k).foldl (acc (fun k => cnt ps c k) (m + 1) b) 0 = a at t1 t2 t3 ⊢
    generalize hp : ps.getD k [] = p at *
    have e1 : decide ((k : Int) < (ps.length : Int)) = true := decide_eq_true (by omega)
    have e2 : inb (k : Int) ps.length = true := by rw [inb_nat]; exact decide_eq_true hk
    have ew : IntKind.i64.wrap ((k : Int) + 1) = ((k + 1 : Nat) : Int) := (wrap64 (by omega) (by omega)).trans (by omega)
    unfold stp3a
    simp only [e1, e2, cond_true, Int.toNat_natCast, hp, ew]
    by_cases hA : fI p 2 = (b : Int)
    · have hA' : pA p = b := by unfold pA; omega
      have x1 : (fI p 2 != (b : Int)) = false := by simp [hA]
      simp only [x1, cond_false]
      by_cases hL : fI p 1 > ((m + 1 : Nat) : Int)
      · have x2 : decide (fI p 1 > ((m + 1 : Nat) : Int)) = true := decide_eq_true hL
        simp only [x2, cond_true]
        have : acc (fun k => cnt ps c k) (m + 1) b a p = a := by
          unfold acc
          rw [if_neg]
          rintro ⟨_, h⟩
          unfold pL at h
          omega
        rw [this]
      · have x2 : decide (fI p 1 > ((m + 1 : Nat) : Int)) = false := decide_eq_false hL
        simp only [x2, cond_false]
        have hLn : pL p ≤ m + 1 := by unfold pL; omega
        have hacc : acc (fun k => cnt ps c k) (m + 1) b a p = bmin (a + cnt ps c (m + 1 - pL p) (pB p)) cap := by
          unfold acc
          rw [if_pos ⟨hA', hLn⟩]
        rw [hacc] at t3 ⊢
        have hx := cnt_ok ps c (m + 1 - pL p) (pB p)
        have hb' : bmin (a + cnt ps c (m + 1 - pL p) (pB p)) cap = a + cnt ps c (m + 1 - pL p) (pB p) := by
          rw [bmin_le] at t3 ⊢
          unfold cap at *
          split at t3
          · rw [if_pos (by assumption)]
          · omega
        rw [hb'] at t3 ⊢
        have e3 : IntKind.i64.wrap (((m + 1 : Nat) : Int) - fI p 1) = ((m + 1 - pL p : Nat) : Int) := (wrap64 (by omega) (by omega)).trans (by unfold pL at *; omega)
        have e4 : fI p 3 = ((pB p : Nat) : Int) := by unfold pB; omega
        have hB : pB p < 10 := by unfold pB; omega
        obtain ⟨g1, g2⟩ := ways_val (n := m + 1 - pL p) (b := pB p) (c := c) hps (by omega) hB hc (hw _ _ (by omega) (by omega))
        rw [e3, e4]
        change tabs ps c _ _ _ > _ ∧ _ ∨ _ at g2
        have hc' : tabs ps c (m + 1 - pL p) (m + 1 - pL p) (pB p) = cnt ps c (m + 1 - pL p) (pB p) := rfl
        rw [hc'] at g2
        rcases g2 with ⟨h1, _⟩ | ⟨_, h2, h3⟩
        · omega
        · have y1 : ((0 : Int) != 0) = false := by decide
          have y2 : decide (cnt ps c (m + 1 - pL p) (pB p) < 0) = false := decide_eq_false (by omega)
          have y3 : decide (cnt ps c (m + 1 - pL p) (pB p) > cnt ps c (m + 1) b) = false := decide_eq_false (by omega)
          simp only [g1, h2, h3, y1, y2, y3, cond_true, cond_false]
          rw [wrap64 (by omega) (by omega)]
    · have x1 : (fI p 2 != (b : Int)) = true := by simpa using hA
      simp only [x1, cond_true]
      have : acc (fun k => cnt ps c k) (m + 1) b a p = a := by
        unfold acc
        rw [if_neg]
        rintro ⟨h, _⟩
        unfold pA at h
        omega
      rw [this]
  · show stp3a ((m + 1 : Nat) : Int) (b : Int) (c : Int) ps false (cnt ps c (m + 1) b) ((ps.take ps.length).foldl (acc (fun k => cnt ps c k) (m + 1) b) 0) (ps.length : Int) = _
    rw [List.take_length, ← hrec]
    unfold stp3a
    have e1 : decide ((ps.length : Int) < (ps.length : Int)) = false := decide_eq_false (by omega)
    rw [e1]; rfl
theorem first_law (ra rb rc : Int) (ps : List (List AV)) : g3 ra rb rc ps = true ∧ w3_0 ra rb rc ps = true := by
  cases hg : w18_0 ra rb rc ps with
  | true =>
    unfold g3 w3_0 t3
    simp only [g18_true, hg, Tr.g, Tr.val, cond_true, and_self]
  | false =>
  rcases check_err ra rb rc ps with he | ⟨hF, hw⟩
  · obtain ⟨g1, g2⟩ := ways_err he
    have hb : (w20_1 ra rb rc ps != 0) = true := by simpa using g2
    unfold g3 w3_0 t3
    simp only [g18_true, hg, g1, hb, Tr.g, Tr.val, cond_true, cond_false, and_self]
  · obtain ⟨⟨a1, a2⟩, ⟨b1, b2⟩, ⟨c1, c2⟩, hps⟩ := hF
    obtain ⟨n, rfl⟩ : ∃ n : Nat, ra = (n : Int) := ⟨ra.toNat, by omega⟩
    obtain ⟨b, rfl⟩ : ∃ b : Nat, rb = (b : Int) := ⟨rb.toNat, by omega⟩
    obtain ⟨c, rfl⟩ : ∃ c : Nat, rc = (c : Int) := ⟨rc.toNat, by omega⟩
    obtain ⟨g1, g2⟩ := ways_val (n := n) (b := b) (c := c) hps (by omega) (by omega) (by omega) (hw _ _ a1 a2 b1 b2)
    rcases g2 with ⟨_, h3, _⟩ | ⟨hv, h3, h4⟩
    · have hb : (w20_1 (n : Int) (b : Int) (c : Int) ps != 0) = true := by rw [h3]; decide
      unfold g3 w3_0 t3
      simp only [g18_true, hg, g1, hb, Tr.g, Tr.val, cond_true, cond_false, and_self]
    · have hb : (w20_1 (n : Int) (b : Int) (c : Int) ps != 0) = false := by rw [h3]; decide
      cases n with
      | zero =>
        have h0 : (((0 : Nat) : Int) == 0) = true := by decide
        unfold g3 w3_0 t3
        simp only [g18_true, hg, g1, hb, h0, Tr.g, Tr.val, cond_true, cond_false, and_self]
      | succ m =>
        have h0 : (((m + 1 : Nat) : Int) == 0) = false := by simp; omega
        have hs := first_sum (m := m) (b := b) (c := c) hps (by omega) (by omega) (by omega) (fun n' b' h1 h2 => hw _ _ (by omega) (by omega) (by omega) (by omega)) hv
        have i0 : i3a_0 ((m + 1 : Nat) : Int) (b : Int) (c : Int) ps false (cnt ps c (m + 1) b) 0 0 = false := by
          unfold i3a_0; rw [hs]
        have i1 : i3a_1 ((m + 1 : Nat) : Int) (b : Int) (c : Int) ps false (cnt ps c (m + 1) b) 0 0 = true := by
          unfold i3a_1; rw [hs]
        have v1 : v3a_1_t5 ((m + 1 : Nat) : Int) (b : Int) (c : Int) ps false (cnt ps c (m + 1) b) 0 0 = cnt ps c (m + 1) b := by
          unfold v3a_1_t5; rw [hs]
        have h4' : w20_0 ((m + 1 : Nat) : Int) (b : Int) (c : Int) ps = cnt ps c (m + 1) b := h4
        have hq : (cnt ps c (m + 1) b == cnt ps c (m + 1) b) = true := by simp
        unfold g3 w3_0 t3
        simp only [g18_true, hg, g1, hb, h0, h4', i0, i1, v1, hq, Tr.g, Tr.val, cond_true, cond_false, and_self]
end Go.Proofs.Ytgifjphinkbcaaa

set_option maxRecDepth 100000
set_option linter.unusedVariables false
namespace Go.Proofs.Ytgifjphinkbcaaa
open Go Go.Ev
theorem WT_int {a : AV} {k : IntKind} (h : WT Try.prog (.int k) a) : ∃ n, a = .i k n ∧ k.min ≤ n ∧ n ≤ k.max := by
  cases h with
  | int h1 h2 => exact ⟨_, rfl, h1, h2⟩
theorem WT_sl {a : AV} {e : TypeId} (h : WT Try.prog (.sl e) a) : ∃ es, a = .rs e es ∧ es.length ≤ 9223372036854775807 ∧ (∀ x, x ∈ es → x.length = (cts Try.prog e).length) ∧ (∀ x, x ∈ es → ∀ j, j < x.length → WT Try.prog ((cts Try.prog e).getD j .oth) (x.getD j .u)) := by
  cases h with
  | sl h1 h2 h3 => exact ⟨_, rfl, h1, h2, h3⟩
theorem ty_agg {a : AV} {t : TypeId} {c : List CT} (hA : Ev.isAgg Try.prog t = true) (hc : cts Try.prog t = c) (h : TyArg Try.prog t a) : ∃ bs, a = .agg bs ∧ WTs Try.prog c bs := by
  rcases h with ⟨_, as1, rfl, h⟩ | ⟨h, _⟩
  · exact ⟨as1, rfl, hc ▸ h⟩
  · rw [hA] at h; cases h
theorem ty_one {a : AV} {t : TypeId} {c : CT} (hA : Ev.isAgg Try.prog t = false) (hc : (cts Try.prog t).headD .oth = c) (h : TyArg Try.prog t a) : WT Try.prog c a := by
  rcases h with ⟨h, _⟩ | ⟨_, h⟩
  · rw [hA] at h; cases h
  · exact hc ▸ h
theorem WTs_cons {c : CT} {cs : List CT} {bs : List AV} (h : WTs Try.prog (c :: cs) bs) : ∃ a r, bs = a :: r ∧ WT Try.prog c a ∧ WTs Try.prog cs r := by
  obtain ⟨h1, h2⟩ := h
  cases bs with
  | nil => simp at h1
  | cons a r =>
    refine ⟨a, r, rfl, by simpa using h2 0 (by simp), by simpa using h1, fun j hj => ?_⟩
    simpa using h2 (j + 1) (by simpa using hj)
theorem WTs_nil {bs : List AV} (h : WTs Try.prog [] bs) : bs = [] := by simpa using h.1
theorem tyArgs_cons {t : TypeId} {ts : List TypeId} {bs : List AV} (h : TyArgs Try.prog (t :: ts) bs) : ∃ a r, bs = a :: r ∧ TyArg Try.prog t a ∧ TyArgs Try.prog ts r := by
  cases bs with
  | nil => cases h
  | cons a r => exact ⟨a, r, rfl, h.1, h.2⟩
theorem tyArgs_nil {bs : List AV} (h : TyArgs Try.prog [] bs) : bs = [] := by
  cases bs with
  | nil => rfl
  | cons a r => cases h
/-- A Ridge that is handed in. -/
theorem ridge_of {a : AV} (h : TyArg Try.prog 24 a) : ∃ ra rb rc ps, a = .agg [.i .i64 ra, .i .i64 rb, .i .i64 rc, .rs 31 ps] ∧ ps.length ≤ 9223372036854775807 ∧ (∀ x, x ∈ ps → x.length = (cts Try.prog 31).length) ∧ (∀ x, x ∈ ps → ∀ j, j < x.length → WT Try.prog ((cts Try.prog 31).getD j .oth) (x.getD j .u)) ∧
    (IntKind.i64.min ≤ ra ∧ ra ≤ IntKind.i64.max) ∧ (IntKind.i64.min ≤ rb ∧ rb ≤ IntKind.i64.max) ∧ (IntKind.i64.min ≤ rc ∧ rc ≤ IntKind.i64.max) := by
  obtain ⟨bs, rfl, hw⟩ := ty_agg (c := [.int .i64, .int .i64, .int .i64, .sl 31]) (by kernel_rfl) (by kernel_rfl) h
  obtain ⟨b0, q0, rfl, w0, hw⟩ := WTs_cons hw
  obtain ⟨b1, q1, rfl, w1, hw⟩ := WTs_cons hw
  obtain ⟨b2, q2, rfl, w2, hw⟩ := WTs_cons hw
  obtain ⟨b3, q3, rfl, w3, hw⟩ := WTs_cons hw
  obtain rfl := WTs_nil hw
  obtain ⟨ra, rfl, r1⟩ := WT_int w0
  obtain ⟨rb, rfl, r2⟩ := WT_int w1
  obtain ⟨rc, rfl, r3⟩ := WT_int w2
  obtain ⟨ps, rfl, r4, r5, r6⟩ := WT_sl w3
  exact ⟨ra, rb, rc, ps, rfl, r4, r5, r6, r1, r2, r3⟩
end Go.Proofs.Ytgifjphinkbcaaa

set_option maxRecDepth 100000
set_option linter.unusedVariables false
namespace Go.Proofs.Ytgifjphinkbcaaa
open Go Go.Ev
noncomputable def SC : Ev.Spec := insS 35 e35 (insS 34 e34 (insS 32 e32 (insS 30 e30 (insS 33 e33 (insS 29 e29 (insS 28 e28 (insS 19 e19 (insS 18 e18 (S0)))))))))
theorem SC_ok : SpecOK Try.prog SC := insS_ok e35_ok (insS_ok e34_ok (insS_ok e32_ok (insS_ok e30_ok (insS_ok e33_ok (insS_ok e29_ok (insS_ok e28_ok (insS_ok e19_ok (insS_ok e18_ok (S0_ok)))))))))
end Go.Proofs.Ytgifjphinkbcaaa

set_option maxRecDepth 100000
set_option maxHeartbeats 1000000
set_option linter.unusedVariables false
namespace Go.Proofs.Ytgifjphinkbcaaa
open Go Go.Ev

/-! ### RidgeChecks -/
noncomputable def c7 : Code := match Try.f7.body with | some c => c | _ => .skip
theorem lok7 : LOK Try.prog SC (ro 7) (fun _ _ => none) 0 false c7 [] :=
  lok_lo (fun _ _ _ _ _ _ _ h _ => by cases h) c7 [] false (locate_nil _) (by kernel_rfl)
noncomputable def t7 (ra rb rc : Int) (ps : List (List AV)) (ws : List (List AV)) : Tr ((Bool)) :=
  .cn (g18 ra rb rc ps) (.cn (w18_0 ra rb rc ps) (.lf (true)) (.cn (decide ((↑ws.length : Int) > 400)) (.lf (true)) (.cn (g30 ra rb rc ps ws) (.cn (g32 ra rb rc ps ws) (.cn (g29 ra rb rc ps) (.cn (g33 ra rb rc ps) (.cn (w29_0 ra rb rc ps != w33_0 ra rb rc ps) (.lf (false)) (.cn (!w30_0 ra rb rc ps ws == w32_0 ra rb rc ps ws) (.lf (false)) (.cn (w30_1 ra rb rc ps ws != w32_1 ra rb rc ps ws) (.lf (false)) (.cn (g34 ra rb rc ps ws) (.cn (g35 ra rb rc ps ws) (.cn (w34_1 ra rb rc ps ws == w35_1 ra rb rc ps ws) (.cn (g28 (w34_0 ra rb rc ps ws) (w35_0 ra rb rc ps ws)) (.cn (w28_0 (w34_0 ra rb rc ps ws) (w35_0 ra rb rc ps ws)) (.lf (true)) (.lf (false))) (.nn)) (.lf (false))) (.nn)) (.nn))))) (.nn)) (.nn)) (.nn)) (.nn)))) (.nn)
noncomputable def g7 (ra rb rc : Int) (ps : List (List AV)) (ws : List (List AV)) : Bool := (t7 ra rb rc ps ws).g
noncomputable def w7_0 (ra rb rc : Int) (ps : List (List AV)) (ws : List (List AV)) : Bool := (t7 ra rb rc ps ws).val
theorem eq7 (ra rb rc : Int) (ps : List (List AV)) (ws : List (List AV)) : evF Try.prog SC (ro 7) (fun _ _ => none) Try.f7 [.agg [.i .i64 ra, .i .i64 rb, .i .i64 rc, .rs 31 ps], .rs 3 ws] = (t7 ra rb rc ps ws).opt (fun (x : (Bool)) => (.b x : AV)) := by kernel_rfl
theorem con7 (ra rb rc : Int) (ps : List (List AV)) (ws : List (List AV)) (h : g7 ra rb rc ps ws = true) : Con Try.prog 7 [.agg [.i .i64 ra, .i .i64 rb, .i .i64 rc, .rs 31 ps], .rs 3 ws] [] (.b (w7_0 ra rb rc ps ws)) [] :=
  con_of SC_ok mixed Try.func7 (c := c7) rfl (names 7 _ Try.func7) lok7 ((eq7 ra rb rc ps ws).trans (Tr.sound _ _ h))
noncomputable def e7 (args : List AV) (rows : List Blk) : Option (Bool × AV × List Blk) := match args, rows with
  | [.agg [.i .i64 ra, .i .i64 rb, .i .i64 rc, .rs 31 ps], .rs 3 ws], [] => some (g7 ra rb rc ps ws, .b (w7_0 ra rb rc ps ws), [])
  | _, _ => none
theorem e7_ok (args : List AV) (rows : List Blk) (pre : Bool) (v : AV) (rows' : List Blk) (h : e7 args rows = some (pre, v, rows')) (hp : pre = true) : Con Try.prog 7 args rows v rows' := by
  unfold e7 at h
  split at h
  · cases h; exact con7 _ _ _ _ _ hp
  · cases h
-- SPEC 7
end Go.Proofs.Ytgifjphinkbcaaa

set_option maxRecDepth 100000
set_option linter.unusedVariables false
namespace Go.Proofs.Ytgifjphinkbcaaa
open Go Go.Ev
theorem checks_law (ra rb rc : Int) (ps ws : List (List AV)) : g7 ra rb rc ps ws = true ∧ w7_0 ra rb rc ps ws = true := by
  unfold g7 w7_0 t7
  rw [g18_true]
  cases w18_0 ra rb rc ps with
  | true => exact ⟨rfl, rfl⟩
  | false =>
  cases h : decide ((ws.length : Int) > 400) with
  | true => exact ⟨rfl, rfl⟩
  | false =>
    have hw : ws.length < 9223372036854775807 := by have := of_decide_eq_false h; omega
    obtain ⟨c1, c2, _⟩ := check_eq ra rb rc ps
    have e1 : (w29_0 ra rb rc ps != w29_0 ra rb rc ps) = false := by simp
    by_cases h0 : w29_0 ra rb rc ps = 0
    · have hF := fine_of h0
      obtain ⟨⟨a1, a2, a3⟩, a4, a5, a6⟩ := fitsE_val hF h0 hw
      obtain ⟨n1, n2, n3⟩ := needs_val hF h0 hw
      obtain ⟨m1, m2, m3⟩ := rneeds_val hF h0 hw
      have hs : g28 (w34_0 ra rb rc ps ws) (w34_0 ra rb rc ps ws) = true ∧ w28_0 (w34_0 ra rb rc ps ws) (w34_0 ra rb rc ps ws) = true := by
        refine same_refl ?_
        rw [n3]
        split
        · unfold needL
          rw [ones_len]
          have := hF.ps.1
          omega
        · simp
      rw [a1, a4, g29_true, c1, c2, e1, a2, a3, a5, a6, n1, m1, n2, m2]
      rw [n3] at hs
      rw [n3, m3, hs.1, hs.2]
      have e2 : ∀ b : Bool, (!b == b) = false := by decide
      have e3 : ∀ b : Int, (b != b) = false := by simp
      have e4 : ∀ b : Int, (b == b) = true := by simp
      rw [e2, e3, e4]
      exact ⟨rfl, rfl⟩
    · obtain ⟨⟨a1, a2, a3⟩, a4, a5, a6⟩ := fitsE_err (ws := ws) h0
      obtain ⟨⟨n1, n2, n3⟩, m1, m2, m3⟩ := needs_err (ws := ws) h0
      have hs := same_refl (xs := []) (by simp)
      rw [a1, a4, g29_true, c1, c2, e1, a2, a3, a5, a6, n1, m1, n2, m2, n3, m3, hs.1, hs.2]
      have e3 : ∀ b : Int, (b != b) = false := by simp
      have e4 : ∀ b : Int, (b == b) = true := by simp
      rw [e3, e4]
      exact ⟨rfl, rfl⟩
theorem ints_of {a : AV} (h : TyArg Try.prog 36 a) : ∃ ws, a = .rs 3 ws ∧ ws.length ≤ 9223372036854775807 ∧ (∀ x, x ∈ ws → x.length = (cts Try.prog 3).length) ∧ (∀ x, x ∈ ws → ∀ j, j < x.length → WT Try.prog ((cts Try.prog 3).getD j .oth) (x.getD j .u)) :=
  WT_sl (ty_one (c := .sl 3) (by kernel_rfl) (by kernel_rfl) h)
theorem ridgeChecks_law (avs : List AV) (h : TyArgs Try.prog Try.f7.params.toList avs) : Con Try.prog 7 avs [] (.b true) [] := by
  obtain ⟨a0, r0, rfl, h0, h⟩ := tyArgs_cons h
  obtain ⟨a1, r1, rfl, h1, h⟩ := tyArgs_cons h
  obtain rfl := tyArgs_nil h
  obtain ⟨ra, rb, rc, ps, rfl, _⟩ := ridge_of h0
  obtain ⟨ws, rfl, _⟩ := ints_of h1
  obtain ⟨h1, h2⟩ := checks_law ra rb rc ps ws
  have := con7 ra rb rc ps ws h1
  rw [h2] at this
  exact this
end Go.Proofs.Ytgifjphinkbcaaa
