/-
  The law RidgeImage of the roofer's ridges answers true whatever Ridge and row it is handed; no conditions.
-/
import Derived.Test.YtgifjphinkbcaaaTe
import Derived.Test.YtgifjphinkbcaaaTc
import Derived.Test.YtgifjphinkbcaaaTd
set_option linter.unusedVariables false
set_option maxRecDepth 100000
set_option linter.unusedVariables false
namespace Go.Proofs.Ytgifjphinkbcaaa
open Go Go.Ev
/-! ### Great -/
theorem g18_true (ra rb rc : Int) (ps : List (List AV)) : g18 ra rb rc ps = true := by
  have key : ∀ (n k : Nat) (t : Int), 31 - k = n → k ≤ 31 → ∃ y, run (fun x : S18a => stp18a ra rb rc ps false x.t3 x.t4) ⟨t, (k : Int)⟩ = some y := by
    intro n
    induction n with
    | zero =>
      intro k t hn hk
      have : k = 31 := by omega
      subst this
      have h2 : decide ((31 : Int) ≤ 30) = false := by decide
      cases hl : decide ((31 : Int) < (ps.length : Int)) with
      | true => exact ⟨_, run_out (by show stp18a ra rb rc ps false t 31 = _; unfold stp18a; rw [hl, h2]; rfl)⟩
      | false => exact ⟨_, run_out (by show stp18a ra rb rc ps false t 31 = _; unfold stp18a; rw [hl]; rfl)⟩
    | succ n ih =>
      intro k t hn hk
      cases hl : decide ((k : Int) < (ps.length : Int)) with
      | false => exact ⟨_, run_out (by show stp18a ra rb rc ps false t (k : Int) = _; unfold stp18a; rw [hl]; rfl)⟩
      | true =>
        have hk30 : decide ((k : Int) ≤ 30) = true := decide_eq_true (by omega)
        have hi : inb (k : Int) ps.length = true := by
          rw [inb_nat]
          have := of_decide_eq_true hl
          exact decide_eq_true (by omega)
        have ew : IntKind.i64.wrap ((k : Int) + 1) = ((k + 1 : Nat) : Int) := (wrap64 (by omega) (by omega)).trans (by omega)
        obtain ⟨y, hy⟩ := ih (k + 1) (IntKind.i64.wrap (t + ((fS (ps.getD (k : Int).toNat []) 0).size : Int))) (by omega) (by omega)
        refine ⟨y, (run_go ?_).trans hy⟩
        show stp18a ra rb rc ps false t (k : Int) = _
        unfold stp18a
        rw [hl, hk30, hi, ew]
        rfl
  obtain ⟨y, hy⟩ := key 31 0 0 rfl (by omega)
  have hy' : r18a ra rb rc ps false 0 0 = some y := hy
  unfold g18 t18 i18a_0
  rw [hy']
  cases y
  cases decide (ra > 300) <;> cases decide (ra ≤ 2000) <;> cases decide ((ps.length : Int) > 30) <;> rfl
theorem take_acc {ps : List (List AV)} {T : Nat → Nat → Int} {i h k : Nat} (hk : k < ps.length) : (ps.take (k + 1)).foldl (acc T i h) 0 = acc T i h ((ps.take k).foldl (acc T i h) 0) (ps.getD k []) := by
  have : ps.take (k + 1) = ps.take k ++ [ps.getD k []] := by
    rw [List.take_add_one, List.getElem?_eq_getElem hk]
    simp [List.getD_eq_getElem?_getD, List.getElem?_eq_getElem hk]
  rw [this, List.foldl_append]
  rfl
theorem take_le {ps : List (List AV)} {T : Nat → Nat → Int} {i h : Nat} (hT : okT T) (k : Nat) : (ps.take k).foldl (acc T i h) 0 ≤ ps.foldl (acc T i h) 0 ∧ 0 ≤ (ps.take k).foldl (acc T i h) 0 := by
  have h0 : (0 : Int) ≤ cap := by unfold cap; omega
  obtain ⟨h1, h2⟩ := acc_fold (i := i) (h := h) hT (ps.take k) h0
  have := (acc_fold (i := i) (h := h) hT (ps.drop k) h2).1
  rw [← List.foldl_append, List.take_append_drop] at this
  exact ⟨this, h1⟩
/-- The ways through the first piece. -/
theorem first_sum {ps : List (List AV)} {m b c : Nat} (hps : okPs ps) (hm : m + 1 ≤ 2000) (hb : b < 10) (hc : c < 10) (hw : ∀ n' b' : Nat, n' ≤ 2000 → b' ≤ 9 → w29_0 (n' : Int) (b' : Int) (c : Int) ps = 0) (hv : cnt ps c (m + 1) b ≤ 1000000000000000) :
    r3a ((m + 1 : Nat) : Int) (b : Int) (c : Int) ps false (cnt ps c (m + 1) b) 0 0 = some (.x1 (cnt ps c (m + 1) b) (ps.length : Int)) := by
  have hT : okT (fun k => cnt ps c k) := fun n h => cnt_ok ps c n h
  have hrec := cnt_rec (n := m) (c := c) (h := b) hps
  unfold r3a
  have := run_from0 (step := fun x : S3a => stp3a ((m + 1 : Nat) : Int) (b : Int) (c : Int) ps false (cnt ps c (m + 1) b) x.t5 x.t6) (y := .x1 (cnt ps c (m + 1) b) (ps.length : Int)) (m := ps.length)
    (fun k => ⟨(ps.take k).foldl (acc (fun k => cnt ps c k) (m + 1) b) 0, (k : Int)⟩) (fun k hk => ?_) ?_
  · exact this
  · have hl := hps.1
    have hm' : ps.getD k [] ∈ ps := by
      simp only [List.getD_eq_getElem?_getD, List.getElem?_eq_getElem hk, Option.getD_some]
      exact List.getElem_mem hk
    obtain ⟨b1, b2, b3, b4, b5, b6⟩ := hps.2 _ hm'
    obtain ⟨t1, t2⟩ := take_le (ps := ps) (i := m + 1) (h := b) hT k
    obtain ⟨t3, _⟩ := take_le (ps := ps) (i := m + 1) (h := b) hT (k + 1)
    rw [← hrec] at t1 t3
    rw [take_acc hk] at t3
    show stp3a ((m + 1 : Nat) : Int) (b : Int) (c : Int) ps false (cnt ps c (m + 1) b) ((ps.take k).foldl (acc (fun k => cnt ps c k) (m + 1) b) 0) (k : Int) = .go ⟨(ps.take (k + 1)).foldl (acc (fun k => cnt ps c k) (m + 1) b) 0, ((k + 1 : Nat) : Int)⟩
    rw [take_acc hk]
    generalize (ps.take k).foldl (acc (fun k => cnt ps c k) (m + 1) b) 0 = a at t1 t2 t3 ⊢
    generalize hp : ps.getD k [] = p at *
    have e1 : decide ((k : Int) < (ps.length : Int)) = true := decide_eq_true (by omega)
    have e2 : inb (k : Int) ps.length = true := by rw [inb_nat]; exact decide_eq_true hk
    have ew : IntKind.i64.wrap ((k : Int) + 1) = ((k + 1 : Nat) : Int) := (wrap64 (by omega) (by omega)).trans (by omega)
    unfold stp3a
    simp only [e1, e2, cond_true, Int.toNat_natCast, hp, ew]
    by_cases hA : fI p 2 = (b : Int)
    · have hA' : pA p = b := by unfold pA; omega
      have x1 : (fI p 2 != (b : Int)) = false := by simp [hA]
      simp only [x1, cond_false]
      by_cases hL : fI p 1 > ((m + 1 : Nat) : Int)
      · have x2 : decide (fI p 1 > ((m + 1 : Nat) : Int)) = true := decide_eq_true hL
        simp only [x2, cond_true]
        have : acc (fun k => cnt ps c k) (m + 1) b a p = a := by
          unfold acc
          rw [if_neg]
          rintro ⟨_, h⟩
          unfold pL at h
          omega
        rw [this]
      · have x2 : decide (fI p 1 > ((m + 1 : Nat) : Int)) = false := decide_eq_false hL
        simp only [x2, cond_false]
        have hLn : pL p ≤ m + 1 := by unfold pL; omega
        have hacc : acc (fun k => cnt ps c k) (m + 1) b a p = bmin (a + cnt ps c (m + 1 - pL p) (pB p)) cap := by
          unfold acc
          rw [if_pos ⟨hA', hLn⟩]
        rw [hacc] at t3 ⊢
        have hx := cnt_ok ps c (m + 1 - pL p) (pB p)
        have hb' : bmin (a + cnt ps c (m + 1 - pL p) (pB p)) cap = a + cnt ps c (m + 1 - pL p) (pB p) := by
          rw [bmin_le] at t3 ⊢
          unfold cap at *
          split at t3
          · rw [if_pos (by assumption)]
          · omega
        rw [hb'] at t3 ⊢
        have e3 : IntKind.i64.wrap (((m + 1 : Nat) : Int) - fI p 1) = ((m + 1 - pL p : Nat) : Int) := (wrap64 (by omega) (by omega)).trans (by unfold pL at *; omega)
        have e4 : fI p 3 = ((pB p : Nat) : Int) := by unfold pB; omega
        have hB : pB p < 10 := by unfold pB; omega
        obtain ⟨g1, g2⟩ := ways_val (n := m + 1 - pL p) (b := pB p) (c := c) hps (by omega) hB hc (hw _ _ (by omega) (by omega))
        rw [e3, e4]
        change tabs ps c _ _ _ > _ ∧ _ ∨ _ at g2
        have hc' : tabs ps c (m + 1 - pL p) (m + 1 - pL p) (pB p) = cnt ps c (m + 1 - pL p) (pB p) := rfl
        rw [hc'] at g2
        rcases g2 with ⟨h1, _⟩ | ⟨_, h2, h3⟩
        · omega
        · have y1 : ((0 : Int) != 0) = false := by decide
          have y2 : decide (cnt ps c (m + 1 - pL p) (pB p) < 0) = false := decide_eq_false (by omega)
          have y3 : decide (cnt ps c (m + 1 - pL p) (pB p) > cnt ps c (m + 1) b) = false := decide_eq_false (by omega)
          simp only [g1, h2, h3, y1, y2, y3, cond_true, cond_false]
          rw [wrap64 (by omega) (by omega)]
    · have x1 : (fI p 2 != (b : Int)) = true := by simpa using hA
      simp only [x1, cond_true]
      have : acc (fun k => cnt ps c k) (m + 1) b a p = a := by
        unfold acc
        rw [if_neg]
        rintro ⟨h, _⟩
        unfold pA at h
        omega
      rw [this]
  · show stp3a ((m + 1 : Nat) : Int) (b : Int) (c : Int) ps false (cnt ps c (m + 1) b) ((ps.take ps.length).foldl (acc (fun k => cnt ps c k) (m + 1) b) 0) (ps.length : Int) = _
    rw [List.take_length, ← hrec]
    unfold stp3a
    have e1 : decide ((ps.length : Int) < (ps.length : Int)) = false := decide_eq_false (by omega)
    rw [e1]; rfl
theorem first_law (ra rb rc : Int) (ps : List (List AV)) : g3 ra rb rc ps = true ∧ w3_0 ra rb rc ps = true := by
  cases hg : w18_0 ra rb rc ps with
  | true =>
    unfold g3 w3_0 t3
    simp only [g18_true, hg, Tr.g, Tr.val, cond_true, and_self]
  | false =>
  rcases check_err ra rb rc ps with he | ⟨hF, hw⟩
  · obtain ⟨g1, g2⟩ := ways_err he
    have hb : (w20_1 ra rb rc ps != 0) = true := by simpa using g2
    unfold g3 w3_0 t3
    simp only [g18_true, hg, g1, hb, Tr.g, Tr.val, cond_true, cond_false, and_self]
  · obtain ⟨⟨a1, a2⟩, ⟨b1, b2⟩, ⟨c1, c2⟩, hps⟩ := hF
    obtain ⟨n, rfl⟩ : ∃ n : Nat, ra = (n : Int) := ⟨ra.toNat, by omega⟩
    obtain ⟨b, rfl⟩ : ∃ b : Nat, rb = (b : Int) := ⟨rb.toNat, by omega⟩
    obtain ⟨c, rfl⟩ : ∃ c : Nat, rc = (c : Int) := ⟨rc.toNat, by omega⟩
    obtain ⟨g1, g2⟩ := ways_val (n := n) (b := b) (c := c) hps (by omega) (by omega) (by omega) (hw _ _ a1 a2 b1 b2)
    rcases g2 with ⟨_, h3, _⟩ | ⟨hv, h3, h4⟩
    · have hb : (w20_1 (n : Int) (b : Int) (c : Int) ps != 0) = true := by rw [h3]; decide
      unfold g3 w3_0 t3
      simp only [g18_true, hg, g1, hb, Tr.g, Tr.val, cond_true, cond_false, and_self]
    · have hb : (w20_1 (n : Int) (b : Int) (c : Int) ps != 0) = false := by rw [h3]; decide
      cases n with
      | zero =>
        have h0 : (((0 : Nat) : Int) == 0) = true := by decide
        unfold g3 w3_0 t3
        simp only [g18_true, hg, g1, hb, h0, Tr.g, Tr.val, cond_true, cond_false, and_self]
      | succ m =>
        have h0 : (((m + 1 : Nat) : Int) == 0) = false := by simp; omega
        have hs := first_sum (m := m) (b := b) (c := c) hps (by omega) (by omega) (by omega) (fun n' b' h1 h2 => hw _ _ (by omega) (by omega) (by omega) (by omega)) hv
        have i0 : i3a_0 ((m + 1 : Nat) : Int) (b : Int) (c : Int) ps false (cnt ps c (m + 1) b) 0 0 = false := by
          unfold i3a_0; rw [hs]
        have i1 : i3a_1 ((m + 1 : Nat) : Int) (b : Int) (c : Int) ps false (cnt ps c (m + 1) b) 0 0 = true := by
          unfold i3a_1; rw [hs]
        have v1 : v3a_1_t5 ((m + 1 : Nat) : Int) (b : Int) (c : Int) ps false (cnt ps c (m + 1) b) 0 0 = cnt ps c (m + 1) b := by
          unfold v3a_1_t5; rw [hs]
        have h4' : w20_0 ((m + 1 : Nat) : Int) (b : Int) (c : Int) ps = cnt ps c (m + 1) b := h4
        have hq : (cnt ps c (m + 1) b == cnt ps c (m + 1) b) = true := by simp
        unfold g3 w3_0 t3
        simp only [g18_true, hg, g1, hb, h0, h4', i0, i1, v1, hq, Tr.g, Tr.val, cond_true, cond_false, and_self]
end Go.Proofs.Ytgifjphinkbcaaa

set_option maxRecDepth 100000
set_option linter.unusedVariables false
namespace Go.Proofs.Ytgifjphinkbcaaa
open Go Go.Ev
/-! ### Ways through the first pieces; the row with a number -/
def wd (ps : List (List AV)) (k : Nat) : Nat := pL (ps.getD k [])
def lf (ps : List (List AV)) (k : Nat) : Nat := pA (ps.getD k [])
def rt (ps : List (List AV)) (k : Nat) : Nat := pB (ps.getD k [])
def sm (ps : List (List AV)) (c n h k : Nat) : Int := (ps.take k).foldl (acc (fun m => cnt ps c m) n h) 0
theorem okC (ps : List (List AV)) (c : Nat) : okT (fun m => cnt ps c m) := fun n h => cnt_ok ps c n h
theorem sm_zero (ps : List (List AV)) (c n h : Nat) : sm ps c n h 0 = 0 := rfl
theorem sm_len {ps : List (List AV)} {c n h : Nat} (hps : okPs ps) (hn : 0 < n) : sm ps c n h ps.length = cnt ps c n h := by
  obtain ⟨m, rfl⟩ : ∃ m, n = m + 1 := ⟨n - 1, by omega⟩
  unfold sm
  rw [List.take_length, cnt_rec hps]
theorem sm_le {ps : List (List AV)} {c n h : Nat} (hps : okPs ps) (hn : 0 < n) (k : Nat) : 0 ≤ sm ps c n h k ∧ sm ps c n h k ≤ cnt ps c n h := by
  obtain ⟨h1, h2⟩ := take_le (ps := ps) (i := n) (h := h) (okC ps c) k
  refine ⟨h2, ?_⟩
  have := sm_len (c := c) (h := h) hps hn
  unfold sm at this ⊢
  rw [List.take_length] at this
  rw [← this]
  exact h1
theorem sm_succ {ps : List (List AV)} {c n h k : Nat} (hps : okPs ps) (hn : 0 < n) (hk : k < ps.length) (hs : cnt ps c n h ≤ 1000000000000000) :
    sm ps c n h (k + 1) = sm ps c n h k + (if lf ps k = h ∧ wd ps k ≤ n then cnt ps c (n - wd ps k) (rt ps k) else 0) := by
  have h1 := (sm_le (c := c) (h := h) hps hn (k + 1)).2
  have h2 := (sm_le (c := c) (h := h) hps hn k)
  have ht : sm ps c n h (k + 1) = acc (fun m => cnt ps c m) n h (sm ps c n h k) (ps.getD k []) := take_acc hk
  rw [ht] at h1 ⊢
  unfold acc at h1 ⊢
  have e : (pA (ps.getD k []) = h ∧ pL (ps.getD k []) ≤ n) = (lf ps k = h ∧ wd ps k ≤ n) := rfl
  simp only [e] at h1 ⊢
  split
  · rename_i hc
    rw [if_pos hc] at h1
    have hx := cnt_ok ps c (n - wd ps k) (rt ps k)
    change bmin (sm ps c n h k + cnt ps c (n - wd ps k) (rt ps k)) cap = _
    change bmin (sm ps c n h k + cnt ps c (n - wd ps k) (rt ps k)) cap ≤ _ at h1
    rw [bmin_le] at h1 ⊢
    unfold cap at *
    split at h1
    · rw [if_pos (by assumption)]
    · omega
  · omega
theorem sm_mono {ps : List (List AV)} {c n h : Nat} (hps : okPs ps) (hn : 0 < n) (hs : cnt ps c n h ≤ 1000000000000000) : ∀ {i j : Nat}, i ≤ j → j ≤ ps.length → sm ps c n h i ≤ sm ps c n h j
  | i, 0, h1, h2 => by
    have : i = 0 := by omega
    subst this; exact Int.le_refl _
  | i, j + 1, h1, h2 => by
    rcases Nat.eq_or_lt_of_le h1 with e | e
    · rw [e]; exact Int.le_refl _
    · refine Int.le_trans (sm_mono hps hn hs (Nat.le_of_lt_succ e) (by omega)) ?_
      rw [sm_succ hps hn (by omega) hs]
      have hx := cnt_ok ps c (n - wd ps j) (rt ps j)
      split <;> omega
theorem pc_ok {ps : List (List AV)} (hps : okPs ps) {k : Nat} (hk : k < ps.length) : okPc (ps.getD k []) := hps.2 _ (drop_mem [] hk)
theorem pc_nat {ps : List (List AV)} (hps : okPs ps) {k : Nat} (hk : k < ps.length) : fI (ps.getD k []) 1 = (wd ps k : Int) ∧ fI (ps.getD k []) 2 = (lf ps k : Int) ∧ fI (ps.getD k []) 3 = (rt ps k : Int) ∧ 1 ≤ wd ps k ∧ wd ps k ≤ 2000 ∧ lf ps k < 10 ∧ rt ps k < 10 := by
  obtain ⟨b1, b2, b3, b4, b5, b6⟩ := pc_ok hps hk
  unfold wd lf rt pL pA pB
  omega
/-- A piece that has the x-th way. -/
theorem sm_fits {ps : List (List AV)} {c n h k : Nat} {x : Int} (hps : okPs ps) (hn : 0 < n) (hk : k < ps.length) (hs : cnt ps c n h ≤ 1000000000000000) (h1 : sm ps c n h k ≤ x) (h2 : x < sm ps c n h (k + 1)) :
    (lf ps k = h ∧ wd ps k ≤ n) ∧ 0 ≤ x - sm ps c n h k ∧ x - sm ps c n h k < cnt ps c (n - wd ps k) (rt ps k) ∧ cnt ps c (n - wd ps k) (rt ps k) ≤ 1000000000000000 := by
  rw [sm_succ hps hn hk hs] at h2
  split at h2
  · rename_i hc
    refine ⟨hc, by omega, by omega, ?_⟩
    have h3 := (sm_le (c := c) (h := h) hps hn (k + 1)).2
    rw [sm_succ hps hn hk hs, if_pos hc] at h3
    have := (sm_le (c := c) (h := h) hps hn k).1
    omega
  · omega
inductive NthR (ps : List (List AV)) (c : Nat) : Nat → Nat → Int → List Nat → Prop
  | nil : NthR ps c 0 c 0 []
  | cons {n h i : Nat} {x : Int} {row : List Nat} : 0 < n → i < ps.length → sm ps c n h i ≤ x → x < sm ps c n h (i + 1) → NthR ps c (n - wd ps i) (rt ps i) (x - sm ps c n h i) row → NthR ps c n h x (i :: row)
theorem sm_uniq {ps : List (List AV)} {c n h i j : Nat} {x : Int} (hps : okPs ps) (hn : 0 < n) (hs : cnt ps c n h ≤ 1000000000000000) (hi : i < ps.length) (hj : j < ps.length) (h1 : sm ps c n h i ≤ x) (h2 : x < sm ps c n h (i + 1)) (h3 : sm ps c n h j ≤ x) (h4 : x < sm ps c n h (j + 1)) : i = j := by
  rcases Nat.lt_trichotomy i j with e | e | e
  · have := sm_mono (c := c) (h := h) hps hn hs (show i + 1 ≤ j from e) (by omega)
    omega
  · exact e
  · have := sm_mono (c := c) (h := h) hps hn hs (show j + 1 ≤ i from e) (by omega)
    omega
theorem NthR_uniq {ps : List (List AV)} {c n h : Nat} {x : Int} {row row' : List Nat} (hps : okPs ps) (h1 : NthR ps c n h x row) : cnt ps c n h ≤ 1000000000000000 → NthR ps c n h x row' → row = row' := by
  induction h1 generalizing row' with
  | nil =>
    intro hs h2
    cases h2 with
    | nil => rfl
    | cons h0 _ _ _ _ => omega
  | cons h0 hi ha hb hr ih =>
    intro hs h2
    cases h2 with
    | nil => omega
    | cons g0 gi ga gb gr =>
      have := sm_uniq hps h0 hs hi gi ha hb ga gb
      subst this
      obtain ⟨_, _, _, h4⟩ := sm_fits hps h0 hi hs ha hb
      rw [ih h4 gr]
def rowAV (row : List Nat) : List (List AV) := row.map fun (i : Nat) => [.i .i64 (i : Int)]
def rowI (row : List Nat) : List Int := row.map fun (i : Nat) => (i : Int)
theorem nums_rowAV (row : List Nat) : nums (rowAV row) = rowI row := by
  unfold nums rowAV rowI
  rw [List.map_map]
  rfl
theorem cnt_zero (ps : List (List AV)) (c h : Nat) : cnt ps c 0 h = if h = c then 1 else 0 := rfl
/-- The table holds the counts. -/
theorem tab_cnt {ps : List (List AV)} {c N n h : Nat} (hn : n ≤ N) (hh : h < 10) : g51 (tab (N + 1) (tabs ps c N)) (n : Int) (h : Int) = true ∧ w51_0 (tab (N + 1) (tabs ps c N)) (n : Int) (h : Int) = cnt ps c n h := by
  obtain ⟨h1, h2⟩ := of_tab (N := N + 1) (n := n) (b := h) (T := tabs ps c N) (by omega) hh
  refine ⟨h1, h2.trans ?_⟩
  rw [tabs_stable ps c hn]
  rfl
theorem tab_toI {ps : List (List AV)} {c N n h : Nat} (hn : n ≤ N) (hh : h < 10) : toI (((tab (N + 1) (tabs ps c N)).getD n []).getD h AV.u) = cnt ps c n h := by
  rw [tab_get (by omega), tabR_get hh, tabs_stable ps c hn]
  rfl
end Go.Proofs.Ytgifjphinkbcaaa

set_option maxRecDepth 100000
set_option linter.unusedVariables false
namespace Go.Proofs.Ytgifjphinkbcaaa
open Go Go.Ev

/-! ### Nth -/
noncomputable def c40 : Code := match Try.f40.body with | some c => c | _ => .skip
noncomputable def lp40a : Code := loopAt c40 [true, true, true, true, true, true, false, false]
noncomputable def s40a (x : Int) (ra : Int) (rb : Int) (rc : Int) (ps : List (List AV)) (t5 : Int) (t6 : List (List AV)) (t9 : List (List AV)) (m14_0 : Int) (m14_1 : Int) : St :=
  { t := [(1, .i .i64 x), (2, .rp [.int .i64, .int .i64, .int .i64, .sl 31] [.i .i64 ra, .i .i64 rb, .i .i64 rc, .rs 31 ps] 0), (4, .nl), (5, .i .i64 t5), (6, .rs 91 t6), (8, .p 14 0 0), (9, .gv 15 3 t9)], m := [(15, .fr 3), (0, .dead), (1, .dead), (2, .dead), (3, .dead), (4, .dead), (5, .dead), (6, .dead), (7, .dead), (8, .dead), (9, .dead), (10, .dead), (11, .dead), (12, .dead), (13, .dead), (14, .row 78 [[.i .i64 m14_0, .i .i64 m14_1]])], nx := 16, nt := 67 }
noncomputable def lp40aa : Code := loopAt c40 [true, true, true, true, true, true, false, false, false, true, false, true, false]
noncomputable def s40aa (x : Int) (ra : Int) (rb : Int) (rc : Int) (ps : List (List AV)) (t5 : Int) (t6 : List (List AV)) (t9 : List (List AV)) (t36 : List (List AV)) (t37 : Int) (t38 : Int) (m14_0 : Int) (m14_1 : Int) : St :=
  { t := [(1, .i .i64 x), (2, .rp [.int .i64, .int .i64, .int .i64, .sl 31] [.i .i64 ra, .i .i64 rb, .i .i64 rc, .rs 31 ps] 0), (4, .nl), (5, .i .i64 t5), (6, .rs 91 t6), (8, .p 14 0 0), (9, .gv 15 3 t9), (36, .rs 31 t36), (37, .i .i64 t37), (38, .i .i64 t38)], m := [(15, .fr 3), (0, .dead), (1, .dead), (2, .dead), (3, .dead), (4, .dead), (5, .dead), (6, .dead), (7, .dead), (8, .dead), (9, .dead), (10, .dead), (11, .dead), (12, .dead), (13, .dead), (14, .row 78 [[.i .i64 m14_0, .i .i64 m14_1]])], nx := 16, nt := 67 }
structure S40aa where
  x : Int
  t38 : Int
inductive T40aa where
  | x0 (t1 : Int) (t9' : List (List AV)) (t38 : Int) (m14_0' : Int) (m14_1' : Int)
noncomputable def stp40aa (ra : Int) (rb : Int) (rc : Int) (ps : List (List AV)) (t5 : Int) (t6 : List (List AV)) (t9 : List (List AV)) (t36 : List (List AV)) (t37 : Int) (m14_0 : Int) (m14_1 : Int) (x : Int) (t38 : Int) : Lp S40aa T40aa :=
  cond (decide (t38 < t37)) (cond (inb t38 t36.length) (cond (g71 m14_0 m14_1 (fS (t36.getD t38.toNat []) 0) (fI (t36.getD t38.toNat []) 1) (fI (t36.getD t38.toNat []) 2) (fI (t36.getD t38.toNat []) 3) (fI (t36.getD t38.toNat []) 4)) (cond (!w71_2 m14_0 m14_1 (fS (t36.getD t38.toNat []) 0) (fI (t36.getD t38.toNat []) 1) (fI (t36.getD t38.toNat []) 2) (fI (t36.getD t38.toNat []) 3) (fI (t36.getD t38.toNat []) 4)) (.go ⟨x, IntKind.i64.wrap (t38 + 1)⟩) (cond (g51 t6 (w71_0 m14_0 m14_1 (fS (t36.getD t38.toNat []) 0) (fI (t36.getD t38.toNat []) 1) (fI (t36.getD t38.toNat []) 2) (fI (t36.getD t38.toNat []) 3) (fI (t36.getD t38.toNat []) 4)) (w71_1 m14_0 m14_1 (fS (t36.getD t38.toNat []) 0) (fI (t36.getD t38.toNat []) 1) (fI (t36.getD t38.toNat []) 2) (fI (t36.getD t38.toNat []) 3) (fI (t36.getD t38.toNat []) 4))) (cond (decide (x ≥ w51_0 t6 (w71_0 m14_0 m14_1 (fS (t36.getD t38.toNat []) 0) (fI (t36.getD t38.toNat []) 1) (fI (t36.getD t38.toNat []) 2) (fI (t36.getD t38.toNat []) 3) (fI (t36.getD t38.toNat []) 4)) (w71_1 m14_0 m14_1 (fS (t36.getD t38.toNat []) 0) (fI (t36.getD t38.toNat []) 1) (fI (t36.getD t38.toNat []) 2) (fI (t36.getD t38.toNat []) 3) (fI (t36.getD t38.toNat []) 4)))) (.go ⟨IntKind.i64.wrap (x - w51_0 t6 (w71_0 m14_0 m14_1 (fS (t36.getD t38.toNat []) 0) (fI (t36.getD t38.toNat []) 1) (fI (t36.getD t38.toNat []) 2) (fI (t36.getD t38.toNat []) 3) (fI (t36.getD t38.toNat []) 4)) (w71_1 m14_0 m14_1 (fS (t36.getD t38.toNat []) 0) (fI (t36.getD t38.toNat []) 1) (fI (t36.getD t38.toNat []) 2) (fI (t36.getD t38.toNat []) 3) (fI (t36.getD t38.toNat []) 4))), IntKind.i64.wrap (t38 + 1)⟩) (cond ((t9.length + [[AV.i IntKind.i64 t38]].length).ble 9223372036854775807 && true) (cond (((t9.length + [[AV.i IntKind.i64 t38]].length) * 8).ble 140737488355328) (.out (.x0 x (t9 ++ [[AV.i IntKind.i64 t38]]) t38 (w71_0 m14_0 m14_1 (fS (t36.getD t38.toNat []) 0) (fI (t36.getD t38.toNat []) 1) (fI (t36.getD t38.toNat []) 2) (fI (t36.getD t38.toNat []) 3) (fI (t36.getD t38.toNat []) 4)) (w71_1 m14_0 m14_1 (fS (t36.getD t38.toNat []) 0) (fI (t36.getD t38.toNat []) 1) (fI (t36.getD t38.toNat []) 2) (fI (t36.getD t38.toNat []) 3) (fI (t36.getD t38.toNat []) 4)))) (.bad)) (.bad))) (.bad))) (.bad)) (.bad)) (.out (.x0 x t9 t38 m14_0 m14_1))
noncomputable def o40aa_0 (ra : Int) (rb : Int) (rc : Int) (ps : List (List AV)) (t5 : Int) (t6 : List (List AV)) (t9 : List (List AV)) (t36 : List (List AV)) (t37 : Int) (m14_0 : Int) (m14_1 : Int) (t1 : Int) (t9' : List (List AV)) (t38 : Int) (m14_0' : Int) (m14_1' : Int) : St :=
  { t := [(1, .i .i64 t1), (2, .rp [.int .i64, .int .i64, .int .i64, .sl 31] [.i .i64 ra, .i .i64 rb, .i .i64 rc, .rs 31 ps] 0), (4, .nl), (5, .i .i64 t5), (6, .rs 91 t6), (8, .p 14 0 0), (9, .gv 15 3 t9'), (36, .rs 31 t36), (37, .i .i64 t37), (38, .i .i64 t38)], m := [(15, .fr 3), (0, .dead), (1, .dead), (2, .dead), (3, .dead), (4, .dead), (5, .dead), (6, .dead), (7, .dead), (8, .dead), (9, .dead), (10, .dead), (11, .dead), (12, .dead), (13, .dead), (14, .row 78 [[.i .i64 m14_0', .i .i64 m14_1']])], nx := 16, nt := 67 }
noncomputable def ou40aa (ra : Int) (rb : Int) (rc : Int) (ps : List (List AV)) (t5 : Int) (t6 : List (List AV)) (t9 : List (List AV)) (t36 : List (List AV)) (t37 : Int) (m14_0 : Int) (m14_1 : Int) : T40aa → Ex × St
  | .x0 t1 t9' t38 m14_0' m14_1' => (.ext 2, o40aa_0 ra rb rc ps t5 t6 t9 t36 t37 m14_0 m14_1 t1 t9' t38 m14_0' m14_1')
noncomputable def r40aa (ra : Int) (rb : Int) (rc : Int) (ps : List (List AV)) (t5 : Int) (t6 : List (List AV)) (t9 : List (List AV)) (t36 : List (List AV)) (t37 : Int) (m14_0 : Int) (m14_1 : Int) (x : Int) (t38 : Int) : Option T40aa := run (fun x => stp40aa ra rb rc ps t5 t6 t9 t36 t37 m14_0 m14_1 x.x x.t38) (⟨x, t38⟩ : S40aa)
noncomputable def i40aa_0 (ra : Int) (rb : Int) (rc : Int) (ps : List (List AV)) (t5 : Int) (t6 : List (List AV)) (t9 : List (List AV)) (t36 : List (List AV)) (t37 : Int) (m14_0 : Int) (m14_1 : Int) (x : Int) (t38 : Int) : Bool := match r40aa ra rb rc ps t5 t6 t9 t36 t37 m14_0 m14_1 x t38 with
  | some (.x0 _ _ _ _ _) => true
  | _ => false
noncomputable def v40aa_0_t1 (ra : Int) (rb : Int) (rc : Int) (ps : List (List AV)) (t5 : Int) (t6 : List (List AV)) (t9 : List (List AV)) (t36 : List (List AV)) (t37 : Int) (m14_0 : Int) (m14_1 : Int) (x : Int) (t38 : Int) : Int := match r40aa ra rb rc ps t5 t6 t9 t36 t37 m14_0 m14_1 x t38 with
  | some (.x0 t1 _ _ _ _) => t1
  | _ => default
noncomputable def v40aa_0_t9' (ra : Int) (rb : Int) (rc : Int) (ps : List (List AV)) (t5 : Int) (t6 : List (List AV)) (t9 : List (List AV)) (t36 : List (List AV)) (t37 : Int) (m14_0 : Int) (m14_1 : Int) (x : Int) (t38 : Int) : List (List AV) := match r40aa ra rb rc ps t5 t6 t9 t36 t37 m14_0 m14_1 x t38 with
  | some (.x0 _ t9' _ _ _) => t9'
  | _ => default
noncomputable def v40aa_0_t38 (ra : Int) (rb : Int) (rc : Int) (ps : List (List AV)) (t5 : Int) (t6 : List (List AV)) (t9 : List (List AV)) (t36 : List (List AV)) (t37 : Int) (m14_0 : Int) (m14_1 : Int) (x : Int) (t38 : Int) : Int := match r40aa ra rb rc ps t5 t6 t9 t36 t37 m14_0 m14_1 x t38 with
  | some (.x0 _ _ t38 _ _) => t38
  | _ => default
noncomputable def v40aa_0_m14_0' (ra : Int) (rb : Int) (rc : Int) (ps : List (List AV)) (t5 : Int) (t6 : List (List AV)) (t9 : List (List AV)) (t36 : List (List AV)) (t37 : Int) (m14_0 : Int) (m14_1 : Int) (x : Int) (t38 : Int) : Int := match r40aa ra rb rc ps t5 t6 t9 t36 t37 m14_0 m14_1 x t38 with
  | some (.x0 _ _ _ m14_0' _) => m14_0'
  | _ => default
noncomputable def v40aa_0_m14_1' (ra : Int) (rb : Int) (rc : Int) (ps : List (List AV)) (t5 : Int) (t6 : List (List AV)) (t9 : List (List AV)) (t36 : List (List AV)) (t37 : Int) (m14_0 : Int) (m14_1 : Int) (x : Int) (t38 : Int) : Int := match r40aa ra rb rc ps t5 t6 t9 t36 t37 m14_0 m14_1 x t38 with
  | some (.x0 _ _ _ _ m14_1') => m14_1'
  | _ => default
noncomputable def l40aa (st : St) : Option (List (Bool × Ex × St)) := match normW Try.prog [(1, none), (2, none), (4, none), (5, none), (6, none), (8, none), (9, some 3), (36, none), (37, none), (38, none)] 15 st with
  | some ([.i .i64 x, .rp [.int .i64, .int .i64, .int .i64, .sl 31] [.i .i64 ra, .i .i64 rb, .i .i64 rc, .rs 31 ps] 0, .nl, .i .i64 t5, .rs 91 t6, .p 14 0 0, .gv 15 3 t9, .rs 31 t36, .i .i64 t37, .i .i64 t38], [(15, .fr 3), (0, .dead), (1, .dead), (2, .dead), (3, .dead), (4, .dead), (5, .dead), (6, .dead), (7, .dead), (8, .dead), (9, .dead), (10, .dead), (11, .dead), (12, .dead), (13, .dead), (14, .row 78 [[.i .i64 m14_0, .i .i64 m14_1]])], 16, 67) => some [(i40aa_0 ra rb rc ps t5 t6 t9 t36 t37 m14_0 m14_1 x t38, .ext 2, o40aa_0 ra rb rc ps t5 t6 t9 t36 t37 m14_0 m14_1 (v40aa_0_t1 ra rb rc ps t5 t6 t9 t36 t37 m14_0 m14_1 x t38) (v40aa_0_t9' ra rb rc ps t5 t6 t9 t36 t37 m14_0 m14_1 x t38) (v40aa_0_t38 ra rb rc ps t5 t6 t9 t36 t37 m14_0 m14_1 x t38) (v40aa_0_m14_0' ra rb rc ps t5 t6 t9 t36 t37 m14_0 m14_1 x t38) (v40aa_0_m14_1' ra rb rc ps t5 t6 t9 t36 t37 m14_0 m14_1 x t38))]
  | _ => none
structure S40a where
  x : Int
  t9 : List (List AV)
  m14_0 : Int
  m14_1 : Int
inductive T40a where
  | x0 (t1 : Int) (t9 : List (List AV)) (m14_0 : Int) (m14_1 : Int)
noncomputable def stp40a (ra : Int) (rb : Int) (rc : Int) (ps : List (List AV)) (t5 : Int) (t6 : List (List AV)) (x : Int) (t9 : List (List AV)) (m14_0 : Int) (m14_1 : Int) : Lp S40a T40a :=
  cond (decide (m14_0 > 0)) (cond (i40aa_0 ra rb rc ps t5 t6 t9 ps (↑ps.length : Int) m14_0 m14_1 x 0) (.go ⟨v40aa_0_t1 ra rb rc ps t5 t6 t9 ps (↑ps.length : Int) m14_0 m14_1 x 0, v40aa_0_t9' ra rb rc ps t5 t6 t9 ps (↑ps.length : Int) m14_0 m14_1 x 0, v40aa_0_m14_0' ra rb rc ps t5 t6 t9 ps (↑ps.length : Int) m14_0 m14_1 x 0, v40aa_0_m14_1' ra rb rc ps t5 t6 t9 ps (↑ps.length : Int) m14_0 m14_1 x 0⟩) (.bad)) (.out (.x0 x t9 m14_0 m14_1))
noncomputable def o40a_0 (ra : Int) (rb : Int) (rc : Int) (ps : List (List AV)) (t5 : Int) (t6 : List (List AV)) (t1 : Int) (t9 : List (List AV)) (m14_0 : Int) (m14_1 : Int) : St :=
  { t := [(1, .i .i64 t1), (2, .rp [.int .i64, .int .i64, .int .i64, .sl 31] [.i .i64 ra, .i .i64 rb, .i .i64 rc, .rs 31 ps] 0), (4, .nl), (5, .i .i64 t5), (6, .rs 91 t6), (8, .p 14 0 0), (9, .gv 15 3 t9)], m := [(15, .fr 3), (0, .dead), (1, .dead), (2, .dead), (3, .dead), (4, .dead), (5, .dead), (6, .dead), (7, .dead), (8, .dead), (9, .dead), (10, .dead), (11, .dead), (12, .dead), (13, .dead), (14, .row 78 [[.i .i64 m14_0, .i .i64 m14_1]])], nx := 16, nt := 67 }
noncomputable def ou40a (ra : Int) (rb : Int) (rc : Int) (ps : List (List AV)) (t5 : Int) (t6 : List (List AV)) : T40a → Ex × St
  | .x0 t1 t9 m14_0 m14_1 => (.ext 0, o40a_0 ra rb rc ps t5 t6 t1 t9 m14_0 m14_1)
noncomputable def r40a (ra : Int) (rb : Int) (rc : Int) (ps : List (List AV)) (t5 : Int) (t6 : List (List AV)) (x : Int) (t9 : List (List AV)) (m14_0 : Int) (m14_1 : Int) : Option T40a := run (fun x => stp40a ra rb rc ps t5 t6 x.x x.t9 x.m14_0 x.m14_1) (⟨x, t9, m14_0, m14_1⟩ : S40a)
noncomputable def i40a_0 (ra : Int) (rb : Int) (rc : Int) (ps : List (List AV)) (t5 : Int) (t6 : List (List AV)) (x : Int) (t9 : List (List AV)) (m14_0 : Int) (m14_1 : Int) : Bool := match r40a ra rb rc ps t5 t6 x t9 m14_0 m14_1 with
  | some (.x0 _ _ _ _) => true
  | _ => false
noncomputable def v40a_0_t1 (ra : Int) (rb : Int) (rc : Int) (ps : List (List AV)) (t5 : Int) (t6 : List (List AV)) (x : Int) (t9 : List (List AV)) (m14_0 : Int) (m14_1 : Int) : Int := match r40a ra rb rc ps t5 t6 x t9 m14_0 m14_1 with
  | some (.x0 t1 _ _ _) => t1
  | _ => default
noncomputable def v40a_0_t9 (ra : Int) (rb : Int) (rc : Int) (ps : List (List AV)) (t5 : Int) (t6 : List (List AV)) (x : Int) (t9 : List (List AV)) (m14_0 : Int) (m14_1 : Int) : List (List AV) := match r40a ra rb rc ps t5 t6 x t9 m14_0 m14_1 with
  | some (.x0 _ t9 _ _) => t9
  | _ => default
noncomputable def v40a_0_m14_0 (ra : Int) (rb : Int) (rc : Int) (ps : List (List AV)) (t5 : Int) (t6 : List (List AV)) (x : Int) (t9 : List (List AV)) (m14_0 : Int) (m14_1 : Int) : Int := match r40a ra rb rc ps t5 t6 x t9 m14_0 m14_1 with
  | some (.x0 _ _ m14_0 _) => m14_0
  | _ => default
noncomputable def v40a_0_m14_1 (ra : Int) (rb : Int) (rc : Int) (ps : List (List AV)) (t5 : Int) (t6 : List (List AV)) (x : Int) (t9 : List (List AV)) (m14_0 : Int) (m14_1 : Int) : Int := match r40a ra rb rc ps t5 t6 x t9 m14_0 m14_1 with
  | some (.x0 _ _ _ m14_1) => m14_1
  | _ => default
noncomputable def l40a (st : St) : Option (List (Bool × Ex × St)) := match normW Try.prog [(1, none), (2, none), (4, none), (5, none), (6, none), (8, none), (9, some 3)] 15 st with
  | some ([.i .i64 x, .rp [.int .i64, .int .i64, .int .i64, .sl 31] [.i .i64 ra, .i .i64 rb, .i .i64 rc, .rs 31 ps] 0, .nl, .i .i64 t5, .rs 91 t6, .p 14 0 0, .gv 15 3 t9], [(15, .fr 3), (0, .dead), (1, .dead), (2, .dead), (3, .dead), (4, .dead), (5, .dead), (6, .dead), (7, .dead), (8, .dead), (9, .dead), (10, .dead), (11, .dead), (12, .dead), (13, .dead), (14, .row 78 [[.i .i64 m14_0, .i .i64 m14_1]])], 16, 67) => some [(i40a_0 ra rb rc ps t5 t6 x t9 m14_0 m14_1, .ext 0, o40a_0 ra rb rc ps t5 t6 (v40a_0_t1 ra rb rc ps t5 t6 x t9 m14_0 m14_1) (v40a_0_t9 ra rb rc ps t5 t6 x t9 m14_0 m14_1) (v40a_0_m14_0 ra rb rc ps t5 t6 x t9 m14_0 m14_1) (v40a_0_m14_1 ra rb rc ps t5 t6 x t9 m14_0 m14_1))]
  | _ => none
noncomputable def L40 : LSpec := fun p st => match p with
  | [false, true, false, true, false, false, false, true, true, true, true, true, true] => l40aa st
  | [false, false, true, true, true, true, true, true] => l40a st
  | _ => none
theorem is40aa_0 (ra : Int) (rb : Int) (rc : Int) (ps : List (List AV)) (t5 : Int) (t6 : List (List AV)) (t9 : List (List AV)) (t36 : List (List AV)) (t37 : Int) (m14_0 : Int) (m14_1 : Int) (x : Int) (t38 : Int) (h : i40aa_0 ra rb rc ps t5 t6 t9 t36 t37 m14_0 m14_1 x t38 = true) : r40aa ra rb rc ps t5 t6 t9 t36 t37 m14_0 m14_1 x t38 = some (.x0 (v40aa_0_t1 ra rb rc ps t5 t6 t9 t36 t37 m14_0 m14_1 x t38) (v40aa_0_t9' ra rb rc ps t5 t6 t9 t36 t37 m14_0 m14_1 x t38) (v40aa_0_t38 ra rb rc ps t5 t6 t9 t36 t37 m14_0 m14_1 x t38) (v40aa_0_m14_0' ra rb rc ps t5 t6 t9 t36 t37 m14_0 m14_1 x t38) (v40aa_0_m14_1' ra rb rc ps t5 t6 t9 t36 t37 m14_0 m14_1 x t38)) := by
  unfold i40aa_0 at h
  unfold v40aa_0_t1 v40aa_0_t9' v40aa_0_t38 v40aa_0_m14_0' v40aa_0_m14_1'
  generalize r40aa ra rb rc ps t5 t6 t9 t36 t37 m14_0 m14_1 x t38 = r at h ⊢
  rcases r with _ | y
  · cases h
  · cases y <;> first | rfl | cases h
theorem round40aa (x : Int) (ra : Int) (rb : Int) (rc : Int) (ps : List (List AV)) (t5 : Int) (t6 : List (List AV)) (t9 : List (List AV)) (t36 : List (List AV)) (t37 : Int) (t38 : Int) (m14_0 : Int) (m14_1 : Int) : round Try.prog Sh (ro 40) L40 lp40aa [false, true, false, true, false, false, false, true, true, true, true, true, true] [(1, none), (2, none), (4, none), (5, none), (6, none), (8, none), (9, some 3), (36, none), (37, none), (38, none)] 15 (s40aa x ra rb rc ps t5 t6 t9 t36 t37 t38 m14_0 m14_1) =
    cond (decide (t38 < t37)) (cond (inb t38 t36.length) (cond (g71 m14_0 m14_1 (fS (t36.getD t38.toNat []) 0) (fI (t36.getD t38.toNat []) 1) (fI (t36.getD t38.toNat []) 2) (fI (t36.getD t38.toNat []) 3) (fI (t36.getD t38.toNat []) 4)) (cond (!w71_2 m14_0 m14_1 (fS (t36.getD t38.toNat []) 0) (fI (t36.getD t38.toNat []) 1) (fI (t36.getD t38.toNat []) 2) (fI (t36.getD t38.toNat []) 3) (fI (t36.getD t38.toNat []) 4)) (some (.nrm, s40aa x ra rb rc ps t5 t6 t9 t36 t37 (IntKind.i64.wrap (t38 + 1)) m14_0 m14_1)) (cond (g51 t6 (w71_0 m14_0 m14_1 (fS (t36.getD t38.toNat []) 0) (fI (t36.getD t38.toNat []) 1) (fI (t36.getD t38.toNat []) 2) (fI (t36.getD t38.toNat []) 3) (fI (t36.getD t38.toNat []) 4)) (w71_1 m14_0 m14_1 (fS (t36.getD t38.toNat []) 0) (fI (t36.getD t38.toNat []) 1) (fI (t36.getD t38.toNat []) 2) (fI (t36.getD t38.toNat []) 3) (fI (t36.getD t38.toNat []) 4))) (cond (decide (x ≥ w51_0 t6 (w71_0 m14_0 m14_1 (fS (t36.getD t38.toNat []) 0) (fI (t36.getD t38.toNat []) 1) (fI (t36.getD t38.toNat []) 2) (fI (t36.getD t38.toNat []) 3) (fI (t36.getD t38.toNat []) 4)) (w71_1 m14_0 m14_1 (fS (t36.getD t38.toNat []) 0) (fI (t36.getD t38.toNat []) 1) (fI (t36.getD t38.toNat []) 2) (fI (t36.getD t38.toNat []) 3) (fI (t36.getD t38.toNat []) 4)))) (some (.nrm, s40aa (IntKind.i64.wrap (x - w51_0 t6 (w71_0 m14_0 m14_1 (fS (t36.getD t38.toNat []) 0) (fI (t36.getD t38.toNat []) 1) (fI (t36.getD t38.toNat []) 2) (fI (t36.getD t38.toNat []) 3) (fI (t36.getD t38.toNat []) 4)) (w71_1 m14_0 m14_1 (fS (t36.getD t38.toNat []) 0) (fI (t36.getD t38.toNat []) 1) (fI (t36.getD t38.toNat []) 2) (fI (t36.getD t38.toNat []) 3) (fI (t36.getD t38.toNat []) 4)))) ra rb rc ps t5 t6 t9 t36 t37 (IntKind.i64.wrap (t38 + 1)) m14_0 m14_1)) (cond ((t9.length + [[AV.i IntKind.i64 t38]].length).ble 9223372036854775807 && true) (cond (((t9.length + [[AV.i IntKind.i64 t38]].length) * 8).ble 140737488355328) (some (.ext 2, o40aa_0 ra rb rc ps t5 t6 t9 t36 t37 m14_0 m14_1 x (t9 ++ [[AV.i IntKind.i64 t38]]) t38 (w71_0 m14_0 m14_1 (fS (t36.getD t38.toNat []) 0) (fI (t36.getD t38.toNat []) 1) (fI (t36.getD t38.toNat []) 2) (fI (t36.getD t38.toNat []) 3) (fI (t36.getD t38.toNat []) 4)) (w71_1 m14_0 m14_1 (fS (t36.getD t38.toNat []) 0) (fI (t36.getD t38.toNat []) 1) (fI (t36.getD t38.toNat []) 2) (fI (t36.getD t38.toNat []) 3) (fI (t36.getD t38.toNat []) 4)))) (none)) (none))) (none))) (none)) (none)) (some (.ext 2, o40aa_0 ra rb rc ps t5 t6 t9 t36 t37 m14_0 m14_1 x t9 t38 m14_0 m14_1)) := by kernel_rfl
theorem rnd40aa (ra : Int) (rb : Int) (rc : Int) (ps : List (List AV)) (t5 : Int) (t6 : List (List AV)) (t9 : List (List AV)) (t36 : List (List AV)) (t37 : Int) (m14_0 : Int) (m14_1 : Int) (x : S40aa) : round Try.prog Sh (ro 40) L40 lp40aa [false, true, false, true, false, false, false, true, true, true, true, true, true] [(1, none), (2, none), (4, none), (5, none), (6, none), (8, none), (9, some 3), (36, none), (37, none), (38, none)] 15 ((fun x => s40aa x.x ra rb rc ps t5 t6 t9 t36 t37 x.t38 m14_0 m14_1) x) = toR (fun x => s40aa x.x ra rb rc ps t5 t6 t9 t36 t37 x.t38 m14_0 m14_1) (ou40aa ra rb rc ps t5 t6 t9 t36 t37 m14_0 m14_1) (stp40aa ra rb rc ps t5 t6 t9 t36 t37 m14_0 m14_1 x.x x.t38) := by
  refine (round40aa _ _ _ _ _ _ _ _ _ _ _ _ _ ).trans ?_
  unfold stp40aa
  simp only [toR_cond]
  rfl
theorem lok40aa {st : St} {outs : List (Bool × Ex × St)} {e : Ex} {s : St} (hl : l40aa st = some outs) (hch : Chosen outs e s) :
    ∃ keep nb, 0 ≤ nb ∧ LB Try.prog Sh (ro 40) L40 lp40aa [false, true, false, true, false, false, false, true, true, true, true, true, true] keep nb st e s := by
  unfold l40aa at hl
  split at hl
  · rename_i x ra rb rc ps t5 t6 t9 t36 t37 t38 m14_0 m14_1 hno
    cases hl
    have hno := normW_norm hno
    refine ⟨_, _, ?_, .enter hno ?_⟩
    · decide
    have main := fun y h => LB_run (x := (⟨x, t38⟩ : S40aa)) (y := y) (nb := 15) (fun y => by cases y <;> simp [ou40aa]) (rnd40aa ra rb rc ps t5 t6 t9 t36 t37 m14_0 m14_1) h
    obtain ⟨x, hx, hg, rfl, rfl⟩ := chosen_any hch
    simp only [List.mem_cons, List.not_mem_nil, or_false] at hx
    subst hx
    exact main _ (is40aa_0 ra rb rc ps t5 t6 t9 t36 t37 m14_0 m14_1 x t38 hg)
  · cases hl
theorem is40a_0 (ra : Int) (rb : Int) (rc : Int) (ps : List (List AV)) (t5 : Int) (t6 : List (List AV)) (x : Int) (t9 : List (List AV)) (m14_0 : Int) (m14_1 : Int) (h : i40a_0 ra rb rc ps t5 t6 x t9 m14_0 m14_1 = true) : r40a ra rb rc ps t5 t6 x t9 m14_0 m14_1 = some (.x0 (v40a_0_t1 ra rb rc ps t5 t6 x t9 m14_0 m14_1) (v40a_0_t9 ra rb rc ps t5 t6 x t9 m14_0 m14_1) (v40a_0_m14_0 ra rb rc ps t5 t6 x t9 m14_0 m14_1) (v40a_0_m14_1 ra rb rc ps t5 t6 x t9 m14_0 m14_1)) := by
  unfold i40a_0 at h
  unfold v40a_0_t1 v40a_0_t9 v40a_0_m14_0 v40a_0_m14_1
  generalize r40a ra rb rc ps t5 t6 x t9 m14_0 m14_1 = r at h ⊢
  rcases r with _ | y
  · cases h
  · cases y <;> first | rfl | cases h
theorem round40a (x : Int) (ra : Int) (rb : Int) (rc : Int) (ps : List (List AV)) (t5 : Int) (t6 : List (List AV)) (t9 : List (List AV)) (m14_0 : Int) (m14_1 : Int) : round Try.prog Sh (ro 40) L40 lp40a [false, false, true, true, true, true, true, true] [(1, none), (2, none), (4, none), (5, none), (6, none), (8, none), (9, some 3)] 15 (s40a x ra rb rc ps t5 t6 t9 m14_0 m14_1) =
    cond (decide (m14_0 > 0)) (cond (i40aa_0 ra rb rc ps t5 t6 t9 ps (↑ps.length : Int) m14_0 m14_1 x 0) (some (.nrm, s40a (v40aa_0_t1 ra rb rc ps t5 t6 t9 ps (↑ps.length : Int) m14_0 m14_1 x 0) ra rb rc ps t5 t6 (v40aa_0_t9' ra rb rc ps t5 t6 t9 ps (↑ps.length : Int) m14_0 m14_1 x 0) (v40aa_0_m14_0' ra rb rc ps t5 t6 t9 ps (↑ps.length : Int) m14_0 m14_1 x 0) (v40aa_0_m14_1' ra rb rc ps t5 t6 t9 ps (↑ps.length : Int) m14_0 m14_1 x 0))) (none)) (some (.ext 0, o40a_0 ra rb rc ps t5 t6 x t9 m14_0 m14_1)) := by kernel_rfl
theorem rnd40a (ra : Int) (rb : Int) (rc : Int) (ps : List (List AV)) (t5 : Int) (t6 : List (List AV)) (x : S40a) : round Try.prog Sh (ro 40) L40 lp40a [false, false, true, true, true, true, true, true] [(1, none), (2, none), (4, none), (5, none), (6, none), (8, none), (9, some 3)] 15 ((fun x => s40a x.x ra rb rc ps t5 t6 x.t9 x.m14_0 x.m14_1) x) = toR (fun x => s40a x.x ra rb rc ps t5 t6 x.t9 x.m14_0 x.m14_1) (ou40a ra rb rc ps t5 t6) (stp40a ra rb rc ps t5 t6 x.x x.t9 x.m14_0 x.m14_1) := by
  refine (round40a _ _ _ _ _ _ _ _ _ _ ).trans ?_
  unfold stp40a
  simp only [toR_cond]
  rfl
theorem lok40a {st : St} {outs : List (Bool × Ex × St)} {e : Ex} {s : St} (hl : l40a st = some outs) (hch : Chosen outs e s) :
    ∃ keep nb, 0 ≤ nb ∧ LB Try.prog Sh (ro 40) L40 lp40a [false, false, true, true, true, true, true, true] keep nb st e s := by
  unfold l40a at hl
  split at hl
  · rename_i x ra rb rc ps t5 t6 t9 m14_0 m14_1 hno
    cases hl
    have hno := normW_norm hno
    refine ⟨_, _, ?_, .enter hno ?_⟩
    · decide
    have main := fun y h => LB_run (x := (⟨x, t9, m14_0, m14_1⟩ : S40a)) (y := y) (nb := 15) (fun y => by cases y <;> simp [ou40a]) (rnd40a ra rb rc ps t5 t6) h
    obtain ⟨x, hx, hg, rfl, rfl⟩ := chosen_any hch
    simp only [List.mem_cons, List.not_mem_nil, or_false] at hx
    subst hx
    exact main _ (is40a_0 ra rb rc ps t5 t6 x t9 m14_0 m14_1 hg)
  · cases hl
theorem L40_ok (q : Pl) (c : Code) (hq : locate c40 q.reverse = some (.loop c)) (st : St) (outs : List (Bool × Ex × St)) (e : Ex) (s : St) (hl : L40 q st = some outs) (hch : Chosen outs e s) :
    ∃ keep nb, 0 ≤ nb ∧ LB Try.prog Sh (ro 40) L40 c q keep nb st e s := by
  unfold L40 at hl
  split at hl
  · have : locate c40 ([false, true, false, true, false, false, false, true, true, true, true, true, true] : Pl).reverse = some (.loop lp40aa) := by kernel_rfl
    rw [this] at hq
    cases hq
    exact lok40aa hl hch
  · have : locate c40 ([false, false, true, true, true, true, true, true] : Pl).reverse = some (.loop lp40a) := by kernel_rfl
    rw [this] at hq
    cases hq
    exact lok40a hl hch
  · cases hl
theorem lok40 : LOK Try.prog Sh (ro 40) L40 0 false c40 [] :=
  lok_lo L40_ok c40 [] false (locate_nil _) (by kernel_rfl)
noncomputable def t40 (ra rb rc : Int) (ps : List (List AV)) (x : Int) : Tr ((List (List AV)) × (Int)) :=
  .cn (g50 ra rb rc ps) (.cn (w50_1 ra rb rc ps != 0) (.lf ([], w50_1 ra rb rc ps)) (.cn (g51 (w50_0 ra rb rc ps) (w52_0 ra rb rc ps) (w52_1 ra rb rc ps)) (.cn (g55 x 0 (IntKind.i64.wrap (w51_0 (w50_0 ra rb rc ps) (w52_0 ra rb rc ps) (w52_1 ra rb rc ps) - 1))) (.cn (!w55_0 x 0 (IntKind.i64.wrap (w51_0 (w50_0 ra rb rc ps) (w52_0 ra rb rc ps) (w52_1 ra rb rc ps) - 1))) (.lf ([], 1)) (.cn (i40a_0 ra rb rc ps 0 (w50_0 ra rb rc ps) x [] (w52_0 ra rb rc ps) (w52_1 ra rb rc ps)) (.lf (v40a_0_t9 ra rb rc ps 0 (w50_0 ra rb rc ps) x [] (w52_0 ra rb rc ps) (w52_1 ra rb rc ps), 0)) (.nn))) (.nn)) (.nn))) (.nn)
noncomputable def g40 (ra rb rc : Int) (ps : List (List AV)) (x : Int) : Bool := (t40 ra rb rc ps x).g
noncomputable def w40_0 (ra rb rc : Int) (ps : List (List AV)) (x : Int) : List (List AV) := (t40 ra rb rc ps x).val.1
noncomputable def w40_1 (ra rb rc : Int) (ps : List (List AV)) (x : Int) : Int := (t40 ra rb rc ps x).val.2
noncomputable def a40 (ra rb rc : Int) (ps : List (List AV)) (x : Int) : Tr AV :=
  .cn (g50 ra rb rc ps) (.cn (w50_1 ra rb rc ps != 0) (.lf (.tup [.nl, .i .i64 (w50_1 ra rb rc ps)])) (.cn (g51 (w50_0 ra rb rc ps) (w52_0 ra rb rc ps) (w52_1 ra rb rc ps)) (.cn (g55 x 0 (IntKind.i64.wrap (w51_0 (w50_0 ra rb rc ps) (w52_0 ra rb rc ps) (w52_1 ra rb rc ps) - 1))) (.cn (!w55_0 x 0 (IntKind.i64.wrap (w51_0 (w50_0 ra rb rc ps) (w52_0 ra rb rc ps) (w52_1 ra rb rc ps) - 1))) (.lf (.tup [.nl, .i .i64 1])) (.cn (i40a_0 ra rb rc ps 0 (w50_0 ra rb rc ps) x [] (w52_0 ra rb rc ps) (w52_1 ra rb rc ps)) (.lf (.tup [.rs 3 (v40a_0_t9 ra rb rc ps 0 (w50_0 ra rb rc ps) x [] (w52_0 ra rb rc ps) (w52_1 ra rb rc ps)), .i .i64 0])) (.nn))) (.nn)) (.nn))) (.nn)
theorem eq40 (ra rb rc : Int) (ps : List (List AV)) (x : Int) : evF Try.prog Sh (ro 40) L40 Try.f40 [.agg [.i .i64 ra, .i .i64 rb, .i .i64 rc, .rs 31 ps], .i .i64 x] = (a40 ra rb rc ps x).opt id := by kernel_rfl
theorem wk40 (ra rb rc : Int) (ps : List (List AV)) (x : Int) : (a40 ra rb rc ps x).map (wkV [some 3, none]) = (t40 ra rb rc ps x).map (fun (x : (List (List AV)) × (Int)) => (.tup [.rs 3 x.1, .i .i64 x.2] : AV)) := by kernel_rfl
theorem con40 (ra rb rc : Int) (ps : List (List AV)) (x : Int) (h : g40 ra rb rc ps x = true) : Con Try.prog 40 [.agg [.i .i64 ra, .i .i64 rb, .i .i64 rc, .rs 31 ps], .i .i64 x] [] (.tup [.rs 3 (w40_0 ra rb rc ps x), .i .i64 (w40_1 ra rb rc ps x)]) [] := by
  obtain ⟨v, h1, h2⟩ := Tr.soundW (eq40 ra rb rc ps x) (wk40 ra rb rc ps x) h
  have := (con_of Sh_ok mixed Try.func40 (c := c40) rfl (names 40 _ Try.func40) lok40 h1).wk [some 3, none]
  rw [h2] at this
  exact this
noncomputable def e40 (args : List AV) (rows : List Blk) : Option (Bool × AV × List Blk) := match args, rows with
  | [.agg [.i .i64 ra, .i .i64 rb, .i .i64 rc, .rs 31 ps], .i .i64 x], [] => some (g40 ra rb rc ps x, .tup [.rs 3 (w40_0 ra rb rc ps x), .i .i64 (w40_1 ra rb rc ps x)], [])
  | _, _ => none
theorem e40_ok (args : List AV) (rows : List Blk) (pre : Bool) (v : AV) (rows' : List Blk) (h : e40 args rows = some (pre, v, rows')) (hp : pre = true) : Con Try.prog 40 args rows v rows' := by
  unfold e40 at h
  split at h
  · cases h; exact con40 _ _ _ _ _ hp
  · cases h
-- SPEC 40
end Go.Proofs.Ytgifjphinkbcaaa

set_option maxRecDepth 100000
set_option linter.unusedVariables false
namespace Go.Proofs.Ytgifjphinkbcaaa
open Go Go.Ev

/-! ### ref Nth -/
noncomputable def c41 : Code := match Try.f41.body with | some c => c | _ => .skip
noncomputable def lp41a : Code := loopAt c41 [true, true, true, true, true, true, false, false]
noncomputable def s41a (x : Int) (ra : Int) (rb : Int) (rc : Int) (ps : List (List AV)) (t5 : Int) (t6 : List (List AV)) (t8 : List (List AV)) (t9 : Int) (t10 : Int) : St :=
  { t := [(1, .i .i64 x), (2, .rp [.int .i64, .int .i64, .int .i64, .sl 31] [.i .i64 ra, .i .i64 rb, .i .i64 rc, .rs 31 ps] 0), (4, .nl), (5, .i .i64 t5), (6, .rs 91 t6), (8, .gv 0 3 t8), (9, .i .i64 t9), (10, .i .i64 t10)], m := [(0, .fr 3)], nx := 1, nt := 93 }
noncomputable def lp41aa : Code := loopAt c41 [true, true, true, true, true, true, false, false, false, true, false, true, false]
noncomputable def s41aa (x : Int) (ra : Int) (rb : Int) (rc : Int) (ps : List (List AV)) (t5 : Int) (t6 : List (List AV)) (t8 : List (List AV)) (t9 : Int) (t10 : Int) (t11 : Int) : St :=
  { t := [(1, .i .i64 x), (2, .rp [.int .i64, .int .i64, .int .i64, .sl 31] [.i .i64 ra, .i .i64 rb, .i .i64 rc, .rs 31 ps] 0), (4, .nl), (5, .i .i64 t5), (6, .rs 91 t6), (8, .gv 0 3 t8), (9, .i .i64 t9), (10, .i .i64 t10), (11, .i .i64 t11)], m := [(0, .fr 3)], nx := 1, nt := 93 }
structure S41aa where
  x : Int
  t11 : Int
inductive T41aa where
  | x0 (t1 : Int) (t8' : List (List AV)) (t9' : Int) (t10' : Int) (t11 : Int)
noncomputable def stp41aa (ra : Int) (rb : Int) (rc : Int) (ps : List (List AV)) (t5 : Int) (t6 : List (List AV)) (t8 : List (List AV)) (t9 : Int) (t10 : Int) (x : Int) (t11 : Int) : Lp S41aa T41aa :=
  cond (decide (t11 < (↑ps.length : Int))) (cond (inb t11 ps.length) (cond (fI (ps.getD t11.toNat []) 2 != t10) (.go ⟨x, IntKind.i64.wrap (t11 + 1)⟩) (cond (decide (fI (ps.getD t11.toNat []) 1 > t9)) (.go ⟨x, IntKind.i64.wrap (t11 + 1)⟩) (cond (inb (IntKind.i64.wrap (t9 - fI (ps.getD t11.toNat []) 1)) t6.length) (cond (inb (fI (ps.getD t11.toNat []) 3) 10) (cond (ctsAt (cts Try.prog 91) (0 + (fI (ps.getD t11.toNat []) 3).toNat * 1) (cts Try.prog 3)) (cond (decide (x < toI ((t6.getD (IntKind.i64.wrap (t9 - fI (ps.getD t11.toNat []) 1)).toNat []).getD (0 + (fI (ps.getD t11.toNat []) 3).toNat * 1) AV.u))) (cond ((t8.length + [[AV.i IntKind.i64 t11]].length).ble 9223372036854775807 && true) (cond (((t8.length + [[AV.i IntKind.i64 t11]].length) * 8).ble 140737488355328) (.out (.x0 x (t8 ++ [[AV.i IntKind.i64 t11]]) (IntKind.i64.wrap (t9 - fI (ps.getD t11.toNat []) 1)) (fI (ps.getD t11.toNat []) 3) t11)) (.bad)) (.bad)) (.go ⟨IntKind.i64.wrap (x - toI ((t6.getD (IntKind.i64.wrap (t9 - fI (ps.getD t11.toNat []) 1)).toNat []).getD (0 + (fI (ps.getD t11.toNat []) 3).toNat * 1) AV.u)), IntKind.i64.wrap (t11 + 1)⟩)) (.bad)) (.bad)) (.bad)))) (.bad)) (.out (.x0 x t8 t9 t10 t11))
noncomputable def o41aa_0 (ra : Int) (rb : Int) (rc : Int) (ps : List (List AV)) (t5 : Int) (t6 : List (List AV)) (t8 : List (List AV)) (t9 : Int) (t10 : Int) (t1 : Int) (t8' : List (List AV)) (t9' : Int) (t10' : Int) (t11 : Int) : St :=
  { t := [(1, .i .i64 t1), (2, .rp [.int .i64, .int .i64, .int .i64, .sl 31] [.i .i64 ra, .i .i64 rb, .i .i64 rc, .rs 31 ps] 0), (4, .nl), (5, .i .i64 t5), (6, .rs 91 t6), (8, .gv 0 3 t8'), (9, .i .i64 t9'), (10, .i .i64 t10'), (11, .i .i64 t11)], m := [(0, .fr 3)], nx := 1, nt := 93 }
noncomputable def ou41aa (ra : Int) (rb : Int) (rc : Int) (ps : List (List AV)) (t5 : Int) (t6 : List (List AV)) (t8 : List (List AV)) (t9 : Int) (t10 : Int) : T41aa → Ex × St
  | .x0 t1 t8' t9' t10' t11 => (.ext 2, o41aa_0 ra rb rc ps t5 t6 t8 t9 t10 t1 t8' t9' t10' t11)
noncomputable def r41aa (ra : Int) (rb : Int) (rc : Int) (ps : List (List AV)) (t5 : Int) (t6 : List (List AV)) (t8 : List (List AV)) (t9 : Int) (t10 : Int) (x : Int) (t11 : Int) : Option T41aa := run (fun x => stp41aa ra rb rc ps t5 t6 t8 t9 t10 x.x x.t11) (⟨x, t11⟩ : S41aa)
noncomputable def i41aa_0 (ra : Int) (rb : Int) (rc : Int) (ps : List (List AV)) (t5 : Int) (t6 : List (List AV)) (t8 : List (List AV)) (t9 : Int) (t10 : Int) (x : Int) (t11 : Int) : Bool := match r41aa ra rb rc ps t5 t6 t8 t9 t10 x t11 with
  | some (.x0 _ _ _ _ _) => true
  | _ => false
noncomputable def v41aa_0_t1 (ra : Int) (rb : Int) (rc : Int) (ps : List (List AV)) (t5 : Int) (t6 : List (List AV)) (t8 : List (List AV)) (t9 : Int) (t10 : Int) (x : Int) (t11 : Int) : Int := match r41aa ra rb rc ps t5 t6 t8 t9 t10 x t11 with
  | some (.x0 t1 _ _ _ _) => t1
  | _ => default
noncomputable def v41aa_0_t8' (ra : Int) (rb : Int) (rc : Int) (ps : List (List AV)) (t5 : Int) (t6 : List (List AV)) (t8 : List (List AV)) (t9 : Int) (t10 : Int) (x : Int) (t11 : Int) : List (List AV) := match r41aa ra rb rc ps t5 t6 t8 t9 t10 x t11 with
  | some (.x0 _ t8' _ _ _) => t8'
  | _ => default
noncomputable def v41aa_0_t9' (ra : Int) (rb : Int) (rc : Int) (ps : List (List AV)) (t5 : Int) (t6 : List (List AV)) (t8 : List (List AV)) (t9 : Int) (t10 : Int) (x : Int) (t11 : Int) : Int := match r41aa ra rb rc ps t5 t6 t8 t9 t10 x t11 with
  | some (.x0 _ _ t9' _ _) => t9'
  | _ => default
noncomputable def v41aa_0_t10' (ra : Int) (rb : Int) (rc : Int) (ps : List (List AV)) (t5 : Int) (t6 : List (List AV)) (t8 : List (List AV)) (t9 : Int) (t10 : Int) (x : Int) (t11 : Int) : Int := match r41aa ra rb rc ps t5 t6 t8 t9 t10 x t11 with
  | some (.x0 _ _ _ t10' _) => t10'
  | _ => default
noncomputable def v41aa_0_t11 (ra : Int) (rb : Int) (rc : Int) (ps : List (List AV)) (t5 : Int) (t6 : List (List AV)) (t8 : List (List AV)) (t9 : Int) (t10 : Int) (x : Int) (t11 : Int) : Int := match r41aa ra rb rc ps t5 t6 t8 t9 t10 x t11 with
  | some (.x0 _ _ _ _ t11) => t11
  | _ => default
noncomputable def l41aa (st : St) : Option (List (Bool × Ex × St)) := match normW Try.prog [(1, none), (2, none), (4, none), (5, none), (6, none), (8, some 3), (9, none), (10, none), (11, none)] 0 st with
  | some ([.i .i64 x, .rp [.int .i64, .int .i64, .int .i64, .sl 31] [.i .i64 ra, .i .i64 rb, .i .i64 rc, .rs 31 ps] 0, .nl, .i .i64 t5, .rs 91 t6, .gv 0 3 t8, .i .i64 t9, .i .i64 t10, .i .i64 t11], [(0, .fr 3)], 1, 93) => some [(i41aa_0 ra rb rc ps t5 t6 t8 t9 t10 x t11, .ext 2, o41aa_0 ra rb rc ps t5 t6 t8 t9 t10 (v41aa_0_t1 ra rb rc ps t5 t6 t8 t9 t10 x t11) (v41aa_0_t8' ra rb rc ps t5 t6 t8 t9 t10 x t11) (v41aa_0_t9' ra rb rc ps t5 t6 t8 t9 t10 x t11) (v41aa_0_t10' ra rb rc ps t5 t6 t8 t9 t10 x t11) (v41aa_0_t11 ra rb rc ps t5 t6 t8 t9 t10 x t11))]
  | _ => none
structure S41a where
  x : Int
  t8 : List (List AV)
  t9 : Int
  t10 : Int
inductive T41a where
  | x0 (t1 : Int) (t8 : List (List AV)) (t9 : Int) (t10 : Int)
noncomputable def stp41a (ra : Int) (rb : Int) (rc : Int) (ps : List (List AV)) (t5 : Int) (t6 : List (List AV)) (x : Int) (t8 : List (List AV)) (t9 : Int) (t10 : Int) : Lp S41a T41a :=
  cond (decide (t9 > 0)) (cond (i41aa_0 ra rb rc ps t5 t6 t8 t9 t10 x 0) (.go ⟨v41aa_0_t1 ra rb rc ps t5 t6 t8 t9 t10 x 0, v41aa_0_t8' ra rb rc ps t5 t6 t8 t9 t10 x 0, v41aa_0_t9' ra rb rc ps t5 t6 t8 t9 t10 x 0, v41aa_0_t10' ra rb rc ps t5 t6 t8 t9 t10 x 0⟩) (.bad)) (.out (.x0 x t8 t9 t10))
noncomputable def o41a_0 (ra : Int) (rb : Int) (rc : Int) (ps : List (List AV)) (t5 : Int) (t6 : List (List AV)) (t1 : Int) (t8 : List (List AV)) (t9 : Int) (t10 : Int) : St :=
  { t := [(1, .i .i64 t1), (2, .rp [.int .i64, .int .i64, .int .i64, .sl 31] [.i .i64 ra, .i .i64 rb, .i .i64 rc, .rs 31 ps] 0), (4, .nl), (5, .i .i64 t5), (6, .rs 91 t6), (8, .gv 0 3 t8), (9, .i .i64 t9), (10, .i .i64 t10)], m := [(0, .fr 3)], nx := 1, nt := 93 }
noncomputable def ou41a (ra : Int) (rb : Int) (rc : Int) (ps : List (List AV)) (t5 : Int) (t6 : List (List AV)) : T41a → Ex × St
  | .x0 t1 t8 t9 t10 => (.ext 0, o41a_0 ra rb rc ps t5 t6 t1 t8 t9 t10)
noncomputable def r41a (ra : Int) (rb : Int) (rc : Int) (ps : List (List AV)) (t5 : Int) (t6 : List (List AV)) (x : Int) (t8 : List (List AV)) (t9 : Int) (t10 : Int) : Option T41a := run (fun x => stp41a ra rb rc ps t5 t6 x.x x.t8 x.t9 x.t10) (⟨x, t8, t9, t10⟩ : S41a)
noncomputable def i41a_0 (ra : Int) (rb : Int) (rc : Int) (ps : List (List AV)) (t5 : Int) (t6 : List (List AV)) (x : Int) (t8 : List (List AV)) (t9 : Int) (t10 : Int) : Bool := match r41a ra rb rc ps t5 t6 x t8 t9 t10 with
  | some (.x0 _ _ _ _) => true
  | _ => false
noncomputable def v41a_0_t1 (ra : Int) (rb : Int) (rc : Int) (ps : List (List AV)) (t5 : Int) (t6 : List (List AV)) (x : Int) (t8 : List (List AV)) (t9 : Int) (t10 : Int) : Int := match r41a ra rb rc ps t5 t6 x t8 t9 t10 with
  | some (.x0 t1 _ _ _) => t1
  | _ => default
noncomputable def v41a_0_t8 (ra : Int) (rb : Int) (rc : Int) (ps : List (List AV)) (t5 : Int) (t6 : List (List AV)) (x : Int) (t8 : List (List AV)) (t9 : Int) (t10 : Int) : List (List AV) := match r41a ra rb rc ps t5 t6 x t8 t9 t10 with
  | some (.x0 _ t8 _ _) => t8
  | _ => default
noncomputable def v41a_0_t9 (ra : Int) (rb : Int) (rc : Int) (ps : List (List AV)) (t5 : Int) (t6 : List (List AV)) (x : Int) (t8 : List (List AV)) (t9 : Int) (t10 : Int) : Int := match r41a ra rb rc ps t5 t6 x t8 t9 t10 with
  | some (.x0 _ _ t9 _) => t9
  | _ => default
noncomputable def v41a_0_t10 (ra : Int) (rb : Int) (rc : Int) (ps : List (List AV)) (t5 : Int) (t6 : List (List AV)) (x : Int) (t8 : List (List AV)) (t9 : Int) (t10 : Int) : Int := match r41a ra rb rc ps t5 t6 x t8 t9 t10 with
  | some (.x0 _ _ _ t10) => t10
  | _ => default
noncomputable def l41a (st : St) : Option (List (Bool × Ex × St)) := match normW Try.prog [(1, none), (2, none), (4, none), (5, none), (6, none), (8, some 3), (9, none), (10, none)] 0 st with
  | some ([.i .i64 x, .rp [.int .i64, .int .i64, .int .i64, .sl 31] [.i .i64 ra, .i .i64 rb, .i .i64 rc, .rs 31 ps] 0, .nl, .i .i64 t5, .rs 91 t6, .gv 0 3 t8, .i .i64 t9, .i .i64 t10], [(0, .fr 3)], 1, 93) => some [(i41a_0 ra rb rc ps t5 t6 x t8 t9 t10, .ext 0, o41a_0 ra rb rc ps t5 t6 (v41a_0_t1 ra rb rc ps t5 t6 x t8 t9 t10) (v41a_0_t8 ra rb rc ps t5 t6 x t8 t9 t10) (v41a_0_t9 ra rb rc ps t5 t6 x t8 t9 t10) (v41a_0_t10 ra rb rc ps t5 t6 x t8 t9 t10))]
  | _ => none
noncomputable def L41 : LSpec := fun p st => match p with
  | [false, true, false, true, false, false, false, true, true, true, true, true, true] => l41aa st
  | [false, false, true, true, true, true, true, true] => l41a st
  | _ => none
theorem is41aa_0 (ra : Int) (rb : Int) (rc : Int) (ps : List (List AV)) (t5 : Int) (t6 : List (List AV)) (t8 : List (List AV)) (t9 : Int) (t10 : Int) (x : Int) (t11 : Int) (h : i41aa_0 ra rb rc ps t5 t6 t8 t9 t10 x t11 = true) : r41aa ra rb rc ps t5 t6 t8 t9 t10 x t11 = some (.x0 (v41aa_0_t1 ra rb rc ps t5 t6 t8 t9 t10 x t11) (v41aa_0_t8' ra rb rc ps t5 t6 t8 t9 t10 x t11) (v41aa_0_t9' ra rb rc ps t5 t6 t8 t9 t10 x t11) (v41aa_0_t10' ra rb rc ps t5 t6 t8 t9 t10 x t11) (v41aa_0_t11 ra rb rc ps t5 t6 t8 t9 t10 x t11)) := by
  unfold i41aa_0 at h
  unfold v41aa_0_t1 v41aa_0_t8' v41aa_0_t9' v41aa_0_t10' v41aa_0_t11
  generalize r41aa ra rb rc ps t5 t6 t8 t9 t10 x t11 = r at h ⊢
  rcases r with _ | y
  · cases h
  · cases y <;> first | rfl | cases h
theorem round41aa (x : Int) (ra : Int) (rb : Int) (rc : Int) (ps : List (List AV)) (t5 : Int) (t6 : List (List AV)) (t8 : List (List AV)) (t9 : Int) (t10 : Int) (t11 : Int) : round Try.prog Sh (ro 41) L41 lp41aa [false, true, false, true, false, false, false, true, true, true, true, true, true] [(1, none), (2, none), (4, none), (5, none), (6, none), (8, some 3), (9, none), (10, none), (11, none)] 0 (s41aa x ra rb rc ps t5 t6 t8 t9 t10 t11) =
    cond (decide (t11 < (↑ps.length : Int))) (cond (inb t11 ps.length) (cond (fI (ps.getD t11.toNat []) 2 != t10) (some (.nrm, s41aa x ra rb rc ps t5 t6 t8 t9 t10 (IntKind.i64.wrap (t11 + 1)))) (cond (decide (fI (ps.getD t11.toNat []) 1 > t9)) (some (.nrm, s41aa x ra rb rc ps t5 t6 t8 t9 t10 (IntKind.i64.wrap (t11 + 1)))) (cond (inb (IntKind.i64.wrap (t9 - fI (ps.getD t11.toNat []) 1)) t6.length) (cond (inb (fI (ps.getD t11.toNat []) 3) 10) (cond (ctsAt (cts Try.prog 91) (0 + (fI (ps.getD t11.toNat []) 3).toNat * 1) (cts Try.prog 3)) (cond (decide (x < toI ((t6.getD (IntKind.i64.wrap (t9 - fI (ps.getD t11.toNat []) 1)).toNat []).getD (0 + (fI (ps.getD t11.toNat []) 3).toNat * 1) AV.u))) (cond ((t8.length + [[AV.i IntKind.i64 t11]].length).ble 9223372036854775807 && true) (cond (((t8.length + [[AV.i IntKind.i64 t11]].length) * 8).ble 140737488355328) (some (.ext 2, o41aa_0 ra rb rc ps t5 t6 t8 t9 t10 x (t8 ++ [[AV.i IntKind.i64 t11]]) (IntKind.i64.wrap (t9 - fI (ps.getD t11.toNat []) 1)) (fI (ps.getD t11.toNat []) 3) t11)) (none)) (none)) (some (.nrm, s41aa (IntKind.i64.wrap (x - toI ((t6.getD (IntKind.i64.wrap (t9 - fI (ps.getD t11.toNat []) 1)).toNat []).getD (0 + (fI (ps.getD t11.toNat []) 3).toNat * 1) AV.u))) ra rb rc ps t5 t6 t8 t9 t10 (IntKind.i64.wrap (t11 + 1))))) (none)) (none)) (none)))) (none)) (some (.ext 2, o41aa_0 ra rb rc ps t5 t6 t8 t9 t10 x t8 t9 t10 t11)) := by kernel_rfl
theorem rnd41aa (ra : Int) (rb : Int) (rc : Int) (ps : List (List AV)) (t5 : Int) (t6 : List (List AV)) (t8 : List (List AV)) (t9 : Int) (t10 : Int) (x : S41aa) : round Try.prog Sh (ro 41) L41 lp41aa [false, true, false, true, false, false, false, true, true, true, true, true, true] [(1, none), (2, none), (4, none), (5, none), (6, none), (8, some 3), (9, none), (10, none), (11, none)] 0 ((fun x => s41aa x.x ra rb rc ps t5 t6 t8 t9 t10 x.t11) x) = toR (fun x => s41aa x.x ra rb rc ps t5 t6 t8 t9 t10 x.t11) (ou41aa ra rb rc ps t5 t6 t8 t9 t10) (stp41aa ra rb rc ps t5 t6 t8 t9 t10 x.x x.t11) := by
  refine (round41aa _ _ _ _ _ _ _ _ _ _ _ ).trans ?_
  unfold stp41aa
  simp only [toR_cond]
  rfl
theorem lok41aa {st : St} {outs : List (Bool × Ex × St)} {e : Ex} {s : St} (hl : l41aa st = some outs) (hch : Chosen outs e s) :
    ∃ keep nb, 0 ≤ nb ∧ LB Try.prog Sh (ro 41) L41 lp41aa [false, true, false, true, false, false, false, true, true, true, true, true, true] keep nb st e s := by
  unfold l41aa at hl
  split at hl
  · rename_i x ra rb rc ps t5 t6 t8 t9 t10 t11 hno
    cases hl
    have hno := normW_norm hno
    refine ⟨_, _, ?_, .enter hno ?_⟩
    · decide
    have main := fun y h => LB_run (x := (⟨x, t11⟩ : S41aa)) (y := y) (nb := 0) (fun y => by cases y <;> simp [ou41aa]) (rnd41aa ra rb rc ps t5 t6 t8 t9 t10) h
    obtain ⟨x, hx, hg, rfl, rfl⟩ := chosen_any hch
    simp only [List.mem_cons, List.not_mem_nil, or_false] at hx
    subst hx
    exact main _ (is41aa_0 ra rb rc ps t5 t6 t8 t9 t10 x t11 hg)
  · cases hl
theorem is41a_0 (ra : Int) (rb : Int) (rc : Int) (ps : List (List AV)) (t5 : Int) (t6 : List (List AV)) (x : Int) (t8 : List (List AV)) (t9 : Int) (t10 : Int) (h : i41a_0 ra rb rc ps t5 t6 x t8 t9 t10 = true) : r41a ra rb rc ps t5 t6 x t8 t9 t10 = some (.x0 (v41a_0_t1 ra rb rc ps t5 t6 x t8 t9 t10) (v41a_0_t8 ra rb rc ps t5 t6 x t8 t9 t10) (v41a_0_t9 ra rb rc ps t5 t6 x t8 t9 t10) (v41a_0_t10 ra rb rc ps t5 t6 x t8 t9 t10)) := by
  unfold i41a_0 at h
  unfold v41a_0_t1 v41a_0_t8 v41a_0_t9 v41a_0_t10
  generalize r41a ra rb rc ps t5 t6 x t8 t9 t10 = r at h ⊢
  rcases r with _ | y
  · cases h
  · cases y <;> first | rfl | cases h
theorem round41a (x : Int) (ra : Int) (rb : Int) (rc : Int) (ps : List (List AV)) (t5 : Int) (t6 : List (List AV)) (t8 : List (List AV)) (t9 : Int) (t10 : Int) : round Try.prog Sh (ro 41) L41 lp41a [false, false, true, true, true, true, true, true] [(1, none), (2, none), (4, none), (5, none), (6, none), (8, some 3), (9, none), (10, none)] 0 (s41a x ra rb rc ps t5 t6 t8 t9 t10) =
    cond (decide (t9 > 0)) (cond (i41aa_0 ra rb rc ps t5 t6 t8 t9 t10 x 0) (some (.nrm, s41a (v41aa_0_t1 ra rb rc ps t5 t6 t8 t9 t10 x 0) ra rb rc ps t5 t6 (v41aa_0_t8' ra rb rc ps t5 t6 t8 t9 t10 x 0) (v41aa_0_t9' ra rb rc ps t5 t6 t8 t9 t10 x 0) (v41aa_0_t10' ra rb rc ps t5 t6 t8 t9 t10 x 0))) (none)) (some (.ext 0, o41a_0 ra rb rc ps t5 t6 x t8 t9 t10)) := by kernel_rfl
theorem rnd41a (ra : Int) (rb : Int) (rc : Int) (ps : List (List AV)) (t5 : Int) (t6 : List (List AV)) (x : S41a) : round Try.prog Sh (ro 41) L41 lp41a [false, false, true, true, true, true, true, true] [(1, none), (2, none), (4, none), (5, none), (6, none), (8, some 3), (9, none), (10, none)] 0 ((fun x => s41a x.x ra rb rc ps t5 t6 x.t8 x.t9 x.t10) x) = toR (fun x => s41a x.x ra rb rc ps t5 t6 x.t8 x.t9 x.t10) (ou41a ra rb rc ps t5 t6) (stp41a ra rb rc ps t5 t6 x.x x.t8 x.t9 x.t10) := by
  refine (round41a _ _ _ _ _ _ _ _ _ _ ).trans ?_
  unfold stp41a
  simp only [toR_cond]
  rfl
theorem lok41a {st : St} {outs : List (Bool × Ex × St)} {e : Ex} {s : St} (hl : l41a st = some outs) (hch : Chosen outs e s) :
    ∃ keep nb, 0 ≤ nb ∧ LB Try.prog Sh (ro 41) L41 lp41a [false, false, true, true, true, true, true, true] keep nb st e s := by
  unfold l41a at hl
  split at hl
  · rename_i x ra rb rc ps t5 t6 t8 t9 t10 hno
    cases hl
    have hno := normW_norm hno
    refine ⟨_, _, ?_, .enter hno ?_⟩
    · decide
    have main := fun y h => LB_run (x := (⟨x, t8, t9, t10⟩ : S41a)) (y := y) (nb := 0) (fun y => by cases y <;> simp [ou41a]) (rnd41a ra rb rc ps t5 t6) h
    obtain ⟨x, hx, hg, rfl, rfl⟩ := chosen_any hch
    simp only [List.mem_cons, List.not_mem_nil, or_false] at hx
    subst hx
    exact main _ (is41a_0 ra rb rc ps t5 t6 x t8 t9 t10 hg)
  · cases hl
theorem L41_ok (q : Pl) (c : Code) (hq : locate c41 q.reverse = some (.loop c)) (st : St) (outs : List (Bool × Ex × St)) (e : Ex) (s : St) (hl : L41 q st = some outs) (hch : Chosen outs e s) :
    ∃ keep nb, 0 ≤ nb ∧ LB Try.prog Sh (ro 41) L41 c q keep nb st e s := by
  unfold L41 at hl
  split at hl
  · have : locate c41 ([false, true, false, true, false, false, false, true, true, true, true, true, true] : Pl).reverse = some (.loop lp41aa) := by kernel_rfl
    rw [this] at hq
    cases hq
    exact lok41aa hl hch
  · have : locate c41 ([false, false, true, true, true, true, true, true] : Pl).reverse = some (.loop lp41a) := by kernel_rfl
    rw [this] at hq
    cases hq
    exact lok41a hl hch
  · cases hl
theorem lok41 : LOK Try.prog Sh (ro 41) L41 0 false c41 [] :=
  lok_lo L41_ok c41 [] false (locate_nil _) (by kernel_rfl)
noncomputable def t41 (ra rb rc : Int) (ps : List (List AV)) (x : Int) : Tr ((List (List AV)) × (Int)) :=
  .cn (g67 ra rb rc ps) (.cn (w67_1 ra rb rc ps == 0) (.cn (inb ra (w67_0 ra rb rc ps).length) (.cn (inb rb 10) (.cn (ctsAt (cts Try.prog 91) (0 + rb.toNat * 1) (cts Try.prog 3)) (.cn (g57 x 0 (IntKind.i64.wrap (toI (((w67_0 ra rb rc ps).getD ra.toNat []).getD (0 + rb.toNat * 1) AV.u) - 1))) (.cn (!w57_0 x 0 (IntKind.i64.wrap (toI (((w67_0 ra rb rc ps).getD ra.toNat []).getD (0 + rb.toNat * 1) AV.u) - 1))) (.lf ([], 1)) (.cn (w67_1 ra rb rc ps != 0) (.lf ([], w67_1 ra rb rc ps)) (.cn (i41a_0 ra rb rc ps 0 (w67_0 ra rb rc ps) x [] ra rb) (.lf (v41a_0_t8 ra rb rc ps 0 (w67_0 ra rb rc ps) x [] ra rb, 0)) (.nn)))) (.nn)) (.nn)) (.nn)) (.nn)) (.cn (w67_1 ra rb rc ps != 0) (.lf ([], w67_1 ra rb rc ps)) (.cn (i41a_0 ra rb rc ps 0 (w67_0 ra rb rc ps) x [] ra rb) (.lf (v41a_0_t8 ra rb rc ps 0 (w67_0 ra rb rc ps) x [] ra rb, 0)) (.nn)))) (.nn)
noncomputable def g41 (ra rb rc : Int) (ps : List (List AV)) (x : Int) : Bool := (t41 ra rb rc ps x).g
noncomputable def w41_0 (ra rb rc : Int) (ps : List (List AV)) (x : Int) : List (List AV) := (t41 ra rb rc ps x).val.1
noncomputable def w41_1 (ra rb rc : Int) (ps : List (List AV)) (x : Int) : Int := (t41 ra rb rc ps x).val.2
noncomputable def a41 (ra rb rc : Int) (ps : List (List AV)) (x : Int) : Tr AV :=
  .cn (g67 ra rb rc ps) (.cn (w67_1 ra rb rc ps == 0) (.cn (inb ra (w67_0 ra rb rc ps).length) (.cn (inb rb 10) (.cn (ctsAt (cts Try.prog 91) (0 + rb.toNat * 1) (cts Try.prog 3)) (.cn (g57 x 0 (IntKind.i64.wrap (toI (((w67_0 ra rb rc ps).getD ra.toNat []).getD (0 + rb.toNat * 1) AV.u) - 1))) (.cn (!w57_0 x 0 (IntKind.i64.wrap (toI (((w67_0 ra rb rc ps).getD ra.toNat []).getD (0 + rb.toNat * 1) AV.u) - 1))) (.lf (.tup [.nl, .i .i64 1])) (.cn (w67_1 ra rb rc ps != 0) (.lf (.tup [.nl, .i .i64 (w67_1 ra rb rc ps)])) (.cn (i41a_0 ra rb rc ps 0 (w67_0 ra rb rc ps) x [] ra rb) (.lf (.tup [.rs 3 (v41a_0_t8 ra rb rc ps 0 (w67_0 ra rb rc ps) x [] ra rb), .i .i64 0])) (.nn)))) (.nn)) (.nn)) (.nn)) (.nn)) (.cn (w67_1 ra rb rc ps != 0) (.lf (.tup [.nl, .i .i64 (w67_1 ra rb rc ps)])) (.cn (i41a_0 ra rb rc ps 0 (w67_0 ra rb rc ps) x [] ra rb) (.lf (.tup [.rs 3 (v41a_0_t8 ra rb rc ps 0 (w67_0 ra rb rc ps) x [] ra rb), .i .i64 0])) (.nn)))) (.nn)
theorem eq41 (ra rb rc : Int) (ps : List (List AV)) (x : Int) : evF Try.prog Sh (ro 41) L41 Try.f41 [.agg [.i .i64 ra, .i .i64 rb, .i .i64 rc, .rs 31 ps], .i .i64 x] = (a41 ra rb rc ps x).opt id := by kernel_rfl
theorem wk41 (ra rb rc : Int) (ps : List (List AV)) (x : Int) : (a41 ra rb rc ps x).map (wkV [some 3, none]) = (t41 ra rb rc ps x).map (fun (x : (List (List AV)) × (Int)) => (.tup [.rs 3 x.1, .i .i64 x.2] : AV)) := by kernel_rfl
theorem con41 (ra rb rc : Int) (ps : List (List AV)) (x : Int) (h : g41 ra rb rc ps x = true) : Con Try.prog 41 [.agg [.i .i64 ra, .i .i64 rb, .i .i64 rc, .rs 31 ps], .i .i64 x] [] (.tup [.rs 3 (w41_0 ra rb rc ps x), .i .i64 (w41_1 ra rb rc ps x)]) [] := by
  obtain ⟨v, h1, h2⟩ := Tr.soundW (eq41 ra rb rc ps x) (wk41 ra rb rc ps x) h
  have := (con_of Sh_ok mixed Try.func41 (c := c41) rfl (names 41 _ Try.func41) lok41 h1).wk [some 3, none]
  rw [h2] at this
  exact this
noncomputable def e41 (args : List AV) (rows : List Blk) : Option (Bool × AV × List Blk) := match args, rows with
  | [.agg [.i .i64 ra, .i .i64 rb, .i .i64 rc, .rs 31 ps], .i .i64 x], [] => some (g41 ra rb rc ps x, .tup [.rs 3 (w41_0 ra rb rc ps x), .i .i64 (w41_1 ra rb rc ps x)], [])
  | _, _ => none
theorem e41_ok (args : List AV) (rows : List Blk) (pre : Bool) (v : AV) (rows' : List Blk) (h : e41 args rows = some (pre, v, rows')) (hp : pre = true) : Con Try.prog 41 args rows v rows' := by
  unfold e41 at h
  split at h
  · cases h; exact con41 _ _ _ _ _ hp
  · cases h
-- SPEC 41
end Go.Proofs.Ytgifjphinkbcaaa

set_option maxRecDepth 100000
set_option linter.unusedVariables false
namespace Go.Proofs.Ytgifjphinkbcaaa
open Go Go.Ev
/-! ### Nth -/
theorem piece40 {ra rb rc t5 : Int} {ps T9 : List (List AV)} {c N n h : Nat} {x : Int} (hps : okPs ps) (hN : N ≤ 2000) (hn : 0 < n) (hnN : n ≤ N) (hh : h < 10) (h9 : T9.length ≤ 4000) (hx : 0 ≤ x) (hx2 : x < cnt ps c n h) (hs : cnt ps c n h ≤ 1000000000000000) :
    ∃ i, i < ps.length ∧ sm ps c n h i ≤ x ∧ x < sm ps c n h (i + 1) ∧
      r40aa ra rb rc ps t5 (tab (N + 1) (tabs ps c N)) T9 ps (ps.length : Int) (n : Int) (h : Int) x 0 = some (.x0 (x - sm ps c n h i) (T9 ++ [[.i .i64 (i : Int)]]) (i : Int) ((n - wd ps i : Nat) : Int) (rt ps i : Int)) := by
  have hl := hps.1
  have run : ∃ y, r40aa ra rb rc ps t5 (tab (N + 1) (tabs ps c N)) T9 ps (ps.length : Int) (n : Int) (h : Int) x 0 = some y ∧ (∃ i, i < ps.length ∧ sm ps c n h i ≤ x ∧ x < sm ps c n h (i + 1) ∧ y = .x0 (x - sm ps c n h i) (T9 ++ [[.i .i64 (i : Int)]]) (i : Int) ((n - wd ps i : Nat) : Int) (rt ps i : Int)) := by
    unfold r40aa
    refine run_for (S := Int) ps.length (fun k s => (⟨s, (k : Int)⟩ : S40aa)) (fun k s => s = x - sm ps c n h k ∧ sm ps c n h k ≤ x) (fun _ _ (y : T40aa) => ∃ i, i < ps.length ∧ sm ps c n h i ≤ x ∧ x < sm ps c n h (i + 1) ∧ y = .x0 (x - sm ps c n h i) (T9 ++ [[.i .i64 (i : Int)]]) (i : Int) ((n - wd ps i : Nat) : Int) (rt ps i : Int)) (fun k s hk hi => ?_) (fun s hi => ?_) 0 x (Nat.zero_le _) ⟨by rw [sm_zero]; omega, hx⟩
    · obtain ⟨rfl, hle⟩ := hi
      obtain ⟨p1, p2, p3, p4, p5, p6, p7⟩ := pc_nat hps hk
      have hsu := sm_succ (c := c) (h := h) hps hn hk hs
      have hsl := sm_le (c := c) (h := h) hps hn k
      show (∃ s', stp40aa ra rb rc ps t5 (tab (N + 1) (tabs ps c N)) T9 ps (ps.length : Int) (n : Int) (h : Int) (x - sm ps c n h k) (k : Int) = _ ∧ _) ∨ ∃ y, stp40aa ra rb rc ps t5 (tab (N + 1) (tabs ps c N)) T9 ps (ps.length : Int) (n : Int) (h : Int) (x - sm ps c n h k) (k : Int) = _ ∧ _
      unfold stp40aa
      rw [Int.toNat_natCast]
      simp only [lt_true hk, inb_true hk, cond_true, wrap_succ (show k < 9223372036854775807 by omega), g71_true, w71_all, p1, p2, p3]
      by_cases hc : lf ps k = h ∧ wd ps k ≤ n
      · rw [if_pos hc] at hsu
        have e1 : ((lf ps k : Int) == (h : Int) && decide ((wd ps k : Int) ≤ (n : Int))) = true := by
          rw [Bool.and_eq_true, decide_eq_true_eq, beq_iff_eq]
          omega
        have e2 : IntKind.i64.wrap ((n : Int) - (wd ps k : Int)) = ((n - wd ps k : Nat) : Int) := (wrap64 (by omega) (by omega)).trans (by omega)
        obtain ⟨t1, t2⟩ := tab_cnt (ps := ps) (c := c) (N := N) (n := n - wd ps k) (h := rt ps k) (by omega) p7
        simp only [e1, e2, t1, t2, Bool.not_true, cond_false, cond_true]
        have hco := cnt_ok ps c (n - wd ps k) (rt ps k)
        by_cases hge : x - sm ps c n h k ≥ cnt ps c (n - wd ps k) (rt ps k)
        · left
          rw [decide_eq_true hge, wrap64 (by omega) (by omega)]
          exact ⟨x - sm ps c n h (k + 1), by rw [cond_true, hsu, Int.sub_sub], ⟨rfl, by omega⟩, fun y hy => hy⟩
        · right
          rw [decide_eq_false hge]
          have l1 : (T9.length + [[AV.i IntKind.i64 (k : Int)]].length).ble 9223372036854775807 = true := by
            rw [Nat.ble_eq]
            show T9.length + 1 ≤ _
            omega
          have l2 : ((T9.length + [[AV.i IntKind.i64 (k : Int)]].length) * 8).ble 140737488355328 = true := by
            rw [Nat.ble_eq]
            show (T9.length + 1) * 8 ≤ _
            omega
          rw [l1, l2]
          exact ⟨_, rfl, k, hk, hle, by omega, rfl⟩
      · rw [if_neg hc] at hsu
        have e1 : ((lf ps k : Int) == (h : Int) && decide ((wd ps k : Int) ≤ (n : Int))) = false := by
          rw [Bool.eq_false_iff]
          intro h'
          rw [Bool.and_eq_true, decide_eq_true_eq, beq_iff_eq] at h'
          exact hc (by omega)
        rw [e1]
        left
        exact ⟨x - sm ps c n h (k + 1), by rw [hsu, Int.add_zero]; rfl, ⟨rfl, by omega⟩, fun y hy => hy⟩
    · have := sm_len (c := c) (h := h) hps hn
      omega
  obtain ⟨y, h1, i, h2, h3, h4, h5⟩ := run
  exact ⟨i, h2, h3, h4, by rw [h1, h5]⟩
theorem piece41 {ra rb rc t5 : Int} {ps T9 : List (List AV)} {c N n h : Nat} {x : Int} (hps : okPs ps) (hN : N ≤ 2000) (hn : 0 < n) (hnN : n ≤ N) (hh : h < 10) (h9 : T9.length ≤ 4000) (hx : 0 ≤ x) (hx2 : x < cnt ps c n h) (hs : cnt ps c n h ≤ 1000000000000000) :
    ∃ i, i < ps.length ∧ sm ps c n h i ≤ x ∧ x < sm ps c n h (i + 1) ∧
      r41aa ra rb rc ps t5 (tab (N + 1) (tabs ps c N)) T9 (n : Int) (h : Int) x 0 = some (.x0 (x - sm ps c n h i) (T9 ++ [[.i .i64 (i : Int)]]) ((n - wd ps i : Nat) : Int) (rt ps i : Int) (i : Int)) := by
  have hl := hps.1
  have run : ∃ y, r41aa ra rb rc ps t5 (tab (N + 1) (tabs ps c N)) T9 (n : Int) (h : Int) x 0 = some y ∧ (∃ i, i < ps.length ∧ sm ps c n h i ≤ x ∧ x < sm ps c n h (i + 1) ∧ y = .x0 (x - sm ps c n h i) (T9 ++ [[.i .i64 (i : Int)]]) ((n - wd ps i : Nat) : Int) (rt ps i : Int) (i : Int)) := by
    unfold r41aa
    refine run_for (S := Int) ps.length (fun k s => (⟨s, (k : Int)⟩ : S41aa)) (fun k s => s = x - sm ps c n h k ∧ sm ps c n h k ≤ x) (fun _ _ (y : T41aa) => ∃ i, i < ps.length ∧ sm ps c n h i ≤ x ∧ x < sm ps c n h (i + 1) ∧ y = .x0 (x - sm ps c n h i) (T9 ++ [[.i .i64 (i : Int)]]) ((n - wd ps i : Nat) : Int) (rt ps i : Int) (i : Int)) (fun k s hk hi => ?_) (fun s hi => ?_) 0 x (Nat.zero_le _) ⟨by rw [sm_zero]; omega, hx⟩
    · obtain ⟨rfl, hle⟩ := hi
      obtain ⟨p1, p2, p3, p4, p5, p6, p7⟩ := pc_nat hps hk
      have hsu := sm_succ (c := c) (h := h) hps hn hk hs
      have hsl := sm_le (c := c) (h := h) hps hn k
      show (∃ s', stp41aa ra rb rc ps t5 (tab (N + 1) (tabs ps c N)) T9 (n : Int) (h : Int) (x - sm ps c n h k) (k : Int) = _ ∧ _) ∨ ∃ y, stp41aa ra rb rc ps t5 (tab (N + 1) (tabs ps c N)) T9 (n : Int) (h : Int) (x - sm ps c n h k) (k : Int) = _ ∧ _
      unfold stp41aa
      rw [Int.toNat_natCast]
      simp only [lt_true hk, inb_true hk, cond_true, wrap_succ (show k < 9223372036854775807 by omega), p1, p2, p3]
      by_cases hA : lf ps k = h
      · have e1 : ((lf ps k : Int) != (h : Int)) = false := by simp [hA]
        rw [e1]
        by_cases hW : wd ps k ≤ n
        · have hd : decide ((wd ps k : Int) > (n : Int)) = false := decide_eq_false (by omega)
          rw [if_pos ⟨hA, hW⟩] at hsu
          have e2 : IntKind.i64.wrap ((n : Int) - (wd ps k : Int)) = ((n - wd ps k : Nat) : Int) := (wrap64 (by omega) (by omega)).trans (by omega)
          have cc := cts91 p7
          simp only [Int.toNat_natCast, Nat.zero_add, Nat.mul_one] at cc
          rw [hd, e2]
          simp only [cond_false, tab_len, inb_true (show n - wd ps k < N + 1 by omega), inb_true p7, Int.toNat_natCast, Nat.zero_add, Nat.mul_one, cc, cond_true, tab_toI (ps := ps) (c := c) (show n - wd ps k ≤ N by omega) p7]
          have hco := cnt_ok ps c (n - wd ps k) (rt ps k)
          by_cases hlt : x - sm ps c n h k < cnt ps c (n - wd ps k) (rt ps k)
          · right
            have l1 : (T9.length + [[AV.i IntKind.i64 (k : Int)]].length).ble 9223372036854775807 = true := by
              rw [Nat.ble_eq]
              show T9.length + 1 ≤ _
              omega
            have l2 : ((T9.length + [[AV.i IntKind.i64 (k : Int)]].length) * 8).ble 140737488355328 = true := by
              rw [Nat.ble_eq]
              show (T9.length + 1) * 8 ≤ _
              omega
            rw [l1, l2]
            refine ⟨_, by rw [decide_eq_true hlt]; rfl, k, hk, hle, by omega, rfl⟩
          · left
            rw [wrap64 (by omega) (by omega)]
            exact ⟨x - sm ps c n h (k + 1), by rw [decide_eq_false hlt, cond_false, hsu, Int.sub_sub], ⟨rfl, by omega⟩, fun y hy => hy⟩
        · have hd : decide ((wd ps k : Int) > (n : Int)) = true := decide_eq_true (by omega)
          rw [if_neg (fun hc => hW hc.2)] at hsu
          rw [hd]
          left
          exact ⟨x - sm ps c n h (k + 1), by rw [hsu, Int.add_zero]; rfl, ⟨rfl, by omega⟩, fun y hy => hy⟩
      · rw [if_neg (fun hc => hA hc.1)] at hsu
        have e1 : ((lf ps k : Int) != (h : Int)) = true := by
          rw [bne_iff_ne]
          omega
        rw [e1]
        left
        exact ⟨x - sm ps c n h (k + 1), by rw [hsu, Int.add_zero]; rfl, ⟨rfl, by omega⟩, fun y hy => hy⟩
    · have := sm_len (c := c) (h := h) hps hn
      omega
  obtain ⟨y, h1, i, h2, h3, h4, h5⟩ := run
  exact ⟨i, h2, h3, h4, by rw [h1, h5]⟩
theorem cnt_pos_zero {ps : List (List AV)} {c h : Nat} {x : Int} (h1 : 0 ≤ x) (h2 : x < cnt ps c 0 h) : h = c ∧ x = 0 := by
  rw [cnt_zero] at h2
  split at h2
  · exact ⟨by assumption, by omega⟩
  · omega
theorem nth40 {ra rb rc t5 : Int} {ps : List (List AV)} {c N h : Nat} {x : Int} (hps : okPs ps) (hN : N ≤ 2000) (hh : h < 10) (hx : 0 ≤ x) (hx2 : x < cnt ps c N h) (hs : cnt ps c N h ≤ 1000000000000000) :
    ∃ row, NthR ps c N h x row ∧ ∃ a b, r40a ra rb rc ps t5 (tab (N + 1) (tabs ps c N)) x [] (N : Int) (h : Int) = some (.x0 a (rowAV row) 0 b) := by
  have run : ∃ y, r40a ra rb rc ps t5 (tab (N + 1) (tabs ps c N)) x [] (N : Int) (h : Int) = some y ∧ (∃ row, NthR ps c N h x row ∧ ∃ a b, y = .x0 a ([] ++ rowAV row) 0 b) := by
    unfold r40a
    refine run_while (S := Int × List (List AV) × Nat × Nat) (fun s => s.2.2.1) (fun s => (⟨s.1, s.2.1, (s.2.2.1 : Int), (s.2.2.2 : Int)⟩ : S40a)) (fun s => s.2.2.1 ≤ N ∧ s.2.2.2 < 10 ∧ s.2.1.length + s.2.2.1 ≤ 2000 ∧ 0 ≤ s.1 ∧ s.1 < cnt ps c s.2.2.1 s.2.2.2 ∧ cnt ps c s.2.2.1 s.2.2.2 ≤ 1000000000000000)
      (fun s (y : T40a) => ∃ row, NthR ps c s.2.2.1 s.2.2.2 s.1 row ∧ ∃ a b, y = .x0 a (s.2.1 ++ rowAV row) 0 b) (fun s hi => ?_) (x, [], N, h) ⟨Nat.le_refl _, hh, by show 0 + N ≤ 2000; omega, hx, hx2, hs⟩
    obtain ⟨x, T9, n, h⟩ := s
    obtain ⟨i1, i2, i3, i4, i5, i6⟩ := hi
    simp only at i1 i2 i3 i4 i5 i6
    show (∃ s', stp40a ra rb rc ps t5 (tab (N + 1) (tabs ps c N)) x T9 (n : Int) (h : Int) = _ ∧ _) ∨ ∃ y, stp40a ra rb rc ps t5 (tab (N + 1) (tabs ps c N)) x T9 (n : Int) (h : Int) = _ ∧ _
    unfold stp40a
    rcases Nat.eq_zero_or_pos n with rfl | hn
    · right
      obtain ⟨rfl, rfl⟩ := cnt_pos_zero i4 i5
      exact ⟨_, rfl, [], .nil, 0, (h : Int), by rw [show rowAV [] = [] from rfl, List.append_nil]; rfl⟩
    · left
      have d : decide ((n : Int) > 0) = true := decide_eq_true (by omega)
      obtain ⟨i, j1, j2, j3, j4⟩ := piece40 (ra := ra) (rb := rb) (rc := rc) (t5 := t5) (T9 := T9) hps hN hn i1 i2 (by omega) i4 i5 i6
      obtain ⟨q1, q2, q3, q4⟩ := sm_fits hps hn j1 i6 j2 j3
      obtain ⟨p1, p2, p3, p4, p5, p6, p7⟩ := pc_nat hps j1
      unfold i40aa_0 v40aa_0_t1 v40aa_0_t9' v40aa_0_m14_0' v40aa_0_m14_1'
      rw [j4, d]
      refine ⟨(x - sm ps c n h i, T9 ++ [[.i .i64 (i : Int)]], n - wd ps i, rt ps i), rfl, ⟨by show n - wd ps i ≤ N; omega, p7, ?_, q2, q3, q4⟩, ?_, ?_⟩
      · show (T9 ++ [[AV.i .i64 (i : Int)]]).length + (n - wd ps i) ≤ 2000
        rw [List.length_append]
        show T9.length + 1 + (n - wd ps i) ≤ 2000
        omega
      · show n - wd ps i < n
        omega
      · rintro y ⟨row, hr, a, b, rfl⟩
        refine ⟨i :: row, .cons hn j1 j2 j3 hr, a, b, ?_⟩
        show T40a.x0 a ((T9 ++ [[AV.i .i64 (i : Int)]]) ++ rowAV row) 0 b = _
        rw [List.append_assoc]
        rfl
  obtain ⟨y, h1, row, h2, a, b, h3⟩ := run
  exact ⟨row, h2, a, b, by rw [h1, h3]; rfl⟩
theorem nth41 {ra rb rc t5 : Int} {ps : List (List AV)} {c N h : Nat} {x : Int} (hps : okPs ps) (hN : N ≤ 2000) (hh : h < 10) (hx : 0 ≤ x) (hx2 : x < cnt ps c N h) (hs : cnt ps c N h ≤ 1000000000000000) :
    ∃ row, NthR ps c N h x row ∧ ∃ a b, r41a ra rb rc ps t5 (tab (N + 1) (tabs ps c N)) x [] (N : Int) (h : Int) = some (.x0 a (rowAV row) 0 b) := by
  have run : ∃ y, r41a ra rb rc ps t5 (tab (N + 1) (tabs ps c N)) x [] (N : Int) (h : Int) = some y ∧ (∃ row, NthR ps c N h x row ∧ ∃ a b, y = .x0 a ([] ++ rowAV row) 0 b) := by
    unfold r41a
    refine run_while (S := Int × List (List AV) × Nat × Nat) (fun s => s.2.2.1) (fun s => (⟨s.1, s.2.1, (s.2.2.1 : Int), (s.2.2.2 : Int)⟩ : S41a)) (fun s => s.2.2.1 ≤ N ∧ s.2.2.2 < 10 ∧ s.2.1.length + s.2.2.1 ≤ 2000 ∧ 0 ≤ s.1 ∧ s.1 < cnt ps c s.2.2.1 s.2.2.2 ∧ cnt ps c s.2.2.1 s.2.2.2 ≤ 1000000000000000)
      (fun s (y : T41a) => ∃ row, NthR ps c s.2.2.1 s.2.2.2 s.1 row ∧ ∃ a b, y = .x0 a (s.2.1 ++ rowAV row) 0 b) (fun s hi => ?_) (x, [], N, h) ⟨Nat.le_refl _, hh, by show 0 + N ≤ 2000; omega, hx, hx2, hs⟩
    obtain ⟨x, T9, n, h⟩ := s
    obtain ⟨i1, i2, i3, i4, i5, i6⟩ := hi
    simp only at i1 i2 i3 i4 i5 i6
    show (∃ s', stp41a ra rb rc ps t5 (tab (N + 1) (tabs ps c N)) x T9 (n : Int) (h : Int) = _ ∧ _) ∨ ∃ y, stp41a ra rb rc ps t5 (tab (N + 1) (tabs ps c N)) x T9 (n : Int) (h : Int) = _ ∧ _
    unfold stp41a
    rcases Nat.eq_zero_or_pos n with rfl | hn
    · right
      obtain ⟨rfl, rfl⟩ := cnt_pos_zero i4 i5
      exact ⟨_, rfl, [], .nil, 0, (h : Int), by rw [show rowAV [] = [] from rfl, List.append_nil]; rfl⟩
    · left
      have d : decide ((n : Int) > 0) = true := decide_eq_true (by omega)
      obtain ⟨i, j1, j2, j3, j4⟩ := piece41 (ra := ra) (rb := rb) (rc := rc) (t5 := t5) (T9 := T9) hps hN hn i1 i2 (by omega) i4 i5 i6
      obtain ⟨q1, q2, q3, q4⟩ := sm_fits hps hn j1 i6 j2 j3
      obtain ⟨p1, p2, p3, p4, p5, p6, p7⟩ := pc_nat hps j1
      unfold i41aa_0 v41aa_0_t1 v41aa_0_t8' v41aa_0_t9' v41aa_0_t10'
      rw [j4, d]
      refine ⟨(x - sm ps c n h i, T9 ++ [[.i .i64 (i : Int)]], n - wd ps i, rt ps i), rfl, ⟨by show n - wd ps i ≤ N; omega, p7, ?_, q2, q3, q4⟩, ?_, ?_⟩
      · show (T9 ++ [[AV.i .i64 (i : Int)]]).length + (n - wd ps i) ≤ 2000
        rw [List.length_append]
        show T9.length + 1 + (n - wd ps i) ≤ 2000
        omega
      · show n - wd ps i < n
        omega
      · rintro y ⟨row, hr, a, b, rfl⟩
        refine ⟨i :: row, .cons hn j1 j2 j3 hr, a, b, ?_⟩
        show T41a.x0 a ((T9 ++ [[AV.i .i64 (i : Int)]]) ++ rowAV row) 0 b = _
        rw [List.append_assoc]
        rfl
  obtain ⟨y, h1, row, h2, a, b, h3⟩ := run
  exact ⟨row, h2, a, b, by rw [h1, h3]; rfl⟩
end Go.Proofs.Ytgifjphinkbcaaa

set_option maxRecDepth 100000
set_option linter.unusedVariables false
namespace Go.Proofs.Ytgifjphinkbcaaa
open Go Go.Ev

/-! ### ref Ways -/
noncomputable def c36 : Code := match Try.f36.body with | some c => c | _ => .skip
theorem lok36 : LOK Try.prog Sh (ro 36) (fun _ _ => none) 0 false c36 [] :=
  lok_lo (fun _ _ _ _ _ _ _ h _ => by cases h) c36 [] false (locate_nil _) (by kernel_rfl)
noncomputable def t36 (ra rb rc : Int) (ps : List (List AV)) : Tr ((Int) × (Int)) :=
  .cn (g67 ra rb rc ps) (.cn (w67_1 ra rb rc ps != 0) (.lf (0, w67_1 ra rb rc ps)) (.cn (inb ra (w67_0 ra rb rc ps).length) (.cn (inb rb 10) (.cn (ctsAt (cts Try.prog 91) (0 + rb.toNat * 1) (cts Try.prog 3)) (.lf (toI (((w67_0 ra rb rc ps).getD ra.toNat []).getD (0 + rb.toNat * 1) AV.u), 0)) (.nn)) (.nn)) (.nn))) (.nn)
noncomputable def g36 (ra rb rc : Int) (ps : List (List AV)) : Bool := (t36 ra rb rc ps).g
noncomputable def w36_0 (ra rb rc : Int) (ps : List (List AV)) : Int := (t36 ra rb rc ps).val.1
noncomputable def w36_1 (ra rb rc : Int) (ps : List (List AV)) : Int := (t36 ra rb rc ps).val.2
theorem eq36 (ra rb rc : Int) (ps : List (List AV)) : evF Try.prog Sh (ro 36) (fun _ _ => none) Try.f36 [.agg [.i .i64 ra, .i .i64 rb, .i .i64 rc, .rs 31 ps]] = (t36 ra rb rc ps).opt (fun (x : (Int) × (Int)) => (.tup [.i .i64 x.1, .i .i64 x.2] : AV)) := by kernel_rfl
theorem con36 (ra rb rc : Int) (ps : List (List AV)) (h : g36 ra rb rc ps = true) : Con Try.prog 36 [.agg [.i .i64 ra, .i .i64 rb, .i .i64 rc, .rs 31 ps]] [] (.tup [.i .i64 (w36_0 ra rb rc ps), .i .i64 (w36_1 ra rb rc ps)]) [] :=
  con_of Sh_ok mixed Try.func36 (c := c36) rfl (names 36 _ Try.func36) lok36 ((eq36 ra rb rc ps).trans (Tr.sound _ _ h))
noncomputable def e36 (args : List AV) (rows : List Blk) : Option (Bool × AV × List Blk) := match args, rows with
  | [.agg [.i .i64 ra, .i .i64 rb, .i .i64 rc, .rs 31 ps]], [] => some (g36 ra rb rc ps, .tup [.i .i64 (w36_0 ra rb rc ps), .i .i64 (w36_1 ra rb rc ps)], [])
  | _, _ => none
theorem e36_ok (args : List AV) (rows : List Blk) (pre : Bool) (v : AV) (rows' : List Blk) (h : e36 args rows = some (pre, v, rows')) (hp : pre = true) : Con Try.prog 36 args rows v rows' := by
  unfold e36 at h
  split at h
  · cases h; exact con36 _ _ _ _ hp
  · cases h
-- SPEC 36
end Go.Proofs.Ytgifjphinkbcaaa

set_option maxRecDepth 100000
set_option linter.unusedVariables false
namespace Go.Proofs.Ytgifjphinkbcaaa
open Go Go.Ev
/-! ### The counted, and what comes of it -/
theorem fine_nat {ra rb rc : Int} {ps : List (List AV)} (h : Fine ra rb rc ps) : ∃ n b c : Nat, ra = (n : Int) ∧ rb = (b : Int) ∧ rc = (c : Int) ∧ n ≤ 2000 ∧ b < 10 ∧ c < 10 := by
  obtain ⟨⟨a1, a2⟩, ⟨b1, b2⟩, ⟨c1, c2⟩, hps⟩ := h
  exact ⟨ra.toNat, rb.toNat, rc.toNat, by omega, by omega, by omega, by omega, by omega, by omega⟩
theorem counted_err {ra rb rc : Int} {ps : List (List AV)} (h0 : w29_0 ra rb rc ps ≠ 0) :
    (g50 ra rb rc ps = true ∧ w50_1 ra rb rc ps = w29_0 ra rb rc ps) ∧ g67 ra rb rc ps = true ∧ w67_1 ra rb rc ps = w29_0 ra rb rc ps := by
  obtain ⟨c1, c2, _⟩ := check_eq ra rb rc ps
  have hz : (w29_0 ra rb rc ps != 0) = true := by simpa using h0
  unfold g50 w50_1 t50 g67 w67_1 t67
  rw [c1, c2, g29_true, hz]
  exact ⟨⟨rfl, rfl⟩, rfl, rfl⟩
theorem counted_val {ps : List (List AV)} {n b c : Nat} (hps : okPs ps) (hn : n ≤ 2000) (hb : b < 10) (hc : c < 10) (hw : w29_0 (n : Int) (b : Int) (c : Int) ps = 0) :
    g50 (n : Int) (b : Int) (c : Int) ps = true ∧ g67 (n : Int) (b : Int) (c : Int) ps = true ∧
    ((cnt ps c n b > 1000000000000000 ∧ w50_1 (n : Int) (b : Int) (c : Int) ps = 3 ∧ w67_1 (n : Int) (b : Int) (c : Int) ps = 3) ∨
     (cnt ps c n b ≤ 1000000000000000 ∧ w50_1 (n : Int) (b : Int) (c : Int) ps = 0 ∧ w50_0 (n : Int) (b : Int) (c : Int) ps = tab (n + 1) (tabs ps c n) ∧ w67_1 (n : Int) (b : Int) (c : Int) ps = 0 ∧ w67_0 (n : Int) (b : Int) (c : Int) ps = tab (n + 1) (tabs ps c n))) := by
  obtain ⟨c1, c2⟩ := count_val (rb := (b : Int)) hps hn hc
  obtain ⟨d1, d2⟩ := table_val (rb := (b : Int)) hps hn hc
  obtain ⟨o1, o2⟩ := tab_cnt (ps := ps) (c := c) (N := n) (n := n) (h := b) (Nat.le_refl _) hb
  have o3 := tab_toI (ps := ps) (c := c) (N := n) (n := n) (h := b) (Nat.le_refl _) hb
  obtain ⟨k1, k2, _⟩ := check_eq (n : Int) (b : Int) (c : Int) ps
  have p0 : w52_0 (n : Int) (b : Int) (c : Int) ps = (n : Int) := rfl
  have p1 : w52_1 (n : Int) (b : Int) (c : Int) ps = (b : Int) := rfl
  have hz : (w29_0 (n : Int) (b : Int) (c : Int) ps != 0) = false := by simp [hw]
  have cb := cts91 hb
  simp only [Int.toNat_natCast, Nat.zero_add, Nat.mul_one] at cb
  have ib : inb (b : Int) 10 = true := by simp [inb_nat, hb]
  have i0 : inb (n : Int) (n + 1) = true := by simp [inb_nat]
  unfold g50 g67 w50_1 w67_1 w50_0 w67_0 t50 t67
  simp only [g29_true, k1, k2, hz, c1, c2, d1, d2, p0, p1, o1, o2, tab_len, ib, i0, cb, Int.toNat_natCast, Nat.zero_add, Nat.mul_one, o3]
  cases hd : decide (cnt ps c n b > 1000000000000000) with
  | true => exact ⟨rfl, rfl, .inl ⟨of_decide_eq_true hd, rfl, rfl⟩⟩
  | false => exact ⟨rfl, rfl, .inr ⟨by have := of_decide_eq_false hd; omega, rfl, rfl, rfl, rfl⟩⟩
/-- The row with a number. -/
theorem nth_err {ra rb rc x : Int} {ps : List (List AV)} (h0 : w50_1 ra rb rc ps ≠ 0) (hg : g50 ra rb rc ps = true) (hg' : g67 ra rb rc ps = true) (he : w67_1 ra rb rc ps = w50_1 ra rb rc ps) :
    (g40 ra rb rc ps x = true ∧ w40_1 ra rb rc ps x = w50_1 ra rb rc ps ∧ w40_0 ra rb rc ps x = []) ∧ g41 ra rb rc ps x = true ∧ w41_1 ra rb rc ps x = w50_1 ra rb rc ps ∧ w41_0 ra rb rc ps x = [] := by
  have hz : (w50_1 ra rb rc ps != 0) = true := by simpa using h0
  have hz2 : (w50_1 ra rb rc ps == 0) = false := by simpa using h0
  unfold g40 w40_1 w40_0 t40 g41 w41_1 w41_0 t41
  rw [hg, hg', he, hz, hz2]
  exact ⟨⟨rfl, rfl, rfl⟩, rfl, rfl, rfl⟩
theorem nth_out {ps : List (List AV)} {n b c : Nat} {x : Int} (hps : okPs ps) (hn : n ≤ 2000) (hb : b < 10) (hc : c < 10) (hw : w29_0 (n : Int) (b : Int) (c : Int) ps = 0) (hs : cnt ps c n b ≤ 1000000000000000) (hx : ¬ (0 ≤ x ∧ x < cnt ps c n b)) :
    (g40 (n : Int) (b : Int) (c : Int) ps x = true ∧ w40_1 (n : Int) (b : Int) (c : Int) ps x = 1 ∧ w40_0 (n : Int) (b : Int) (c : Int) ps x = []) ∧ g41 (n : Int) (b : Int) (c : Int) ps x = true ∧ w41_1 (n : Int) (b : Int) (c : Int) ps x = 1 ∧ w41_0 (n : Int) (b : Int) (c : Int) ps x = [] := by
  obtain ⟨g1, g2, g3⟩ := counted_val hps hn hb hc hw
  rcases g3 with ⟨h1, _⟩ | ⟨_, h1, h2, h3, h4⟩
  · omega
  obtain ⟨o1, o2⟩ := tab_cnt (ps := ps) (c := c) (N := n) (n := n) (h := b) (Nat.le_refl _) hb
  have o3 := tab_toI (ps := ps) (c := c) (N := n) (n := n) (h := b) (Nat.le_refl _) hb
  have p0 : w52_0 (n : Int) (b : Int) (c : Int) ps = (n : Int) := rfl
  have p1 : w52_1 (n : Int) (b : Int) (c : Int) ps = (b : Int) := rfl
  have cb := cts91 hb
  simp only [Int.toNat_natCast, Nat.zero_add, Nat.mul_one] at cb
  have ib : inb (b : Int) 10 = true := by simp [inb_nat, hb]
  have i0 : inb (n : Int) (n + 1) = true := by simp [inb_nat]
  have hco := cnt_ok ps c n b
  have ew : IntKind.i64.wrap (cnt ps c n b - 1) = cnt ps c n b - 1 := wrap64 (by omega) (by omega)
  have z1 : ((0 : Int) != 0) = false := by decide
  have z2 : ((0 : Int) == 0) = true := by decide
  have hd : (decide (0 ≤ x) && decide (x ≤ cnt ps c n b - 1)) = false := by
    rw [Bool.eq_false_iff]
    intro h
    rw [Bool.and_eq_true, decide_eq_true_eq, decide_eq_true_eq] at h
    omega
  unfold g40 w40_1 w40_0 t40 g41 w41_1 w41_0 t41
  simp only [g1, g2, h1, h2, h3, h4, z1, z2, p0, p1, o1, o2, tab_len, ib, i0, cb, Int.toNat_natCast, Nat.zero_add, Nat.mul_one, o3, ew, g55_true, (w57_eq _ _ _).1, g55_57, w55_eq, hd]
  exact ⟨⟨rfl, rfl, rfl⟩, rfl, rfl, rfl⟩
theorem nth_val {ps : List (List AV)} {n b c : Nat} {x : Int} (hps : okPs ps) (hn : n ≤ 2000) (hb : b < 10) (hc : c < 10) (hw : w29_0 (n : Int) (b : Int) (c : Int) ps = 0) (hs : cnt ps c n b ≤ 1000000000000000) (hx : 0 ≤ x ∧ x < cnt ps c n b) :
    ∃ row, NthR ps c n b x row ∧ (g40 (n : Int) (b : Int) (c : Int) ps x = true ∧ w40_1 (n : Int) (b : Int) (c : Int) ps x = 0 ∧ w40_0 (n : Int) (b : Int) (c : Int) ps x = rowAV row) ∧ g41 (n : Int) (b : Int) (c : Int) ps x = true ∧ w41_1 (n : Int) (b : Int) (c : Int) ps x = 0 ∧ w41_0 (n : Int) (b : Int) (c : Int) ps x = rowAV row := by
  obtain ⟨g1, g2, g3⟩ := counted_val hps hn hb hc hw
  rcases g3 with ⟨h1, _⟩ | ⟨_, h1, h2, h3, h4⟩
  · omega
  obtain ⟨o1, o2⟩ := tab_cnt (ps := ps) (c := c) (N := n) (n := n) (h := b) (Nat.le_refl _) hb
  have o3 := tab_toI (ps := ps) (c := c) (N := n) (n := n) (h := b) (Nat.le_refl _) hb
  have p0 : w52_0 (n : Int) (b : Int) (c : Int) ps = (n : Int) := rfl
  have p1 : w52_1 (n : Int) (b : Int) (c : Int) ps = (b : Int) := rfl
  have cb := cts91 hb
  simp only [Int.toNat_natCast, Nat.zero_add, Nat.mul_one] at cb
  have ib : inb (b : Int) 10 = true := by simp [inb_nat, hb]
  have i0 : inb (n : Int) (n + 1) = true := by simp [inb_nat]
  have hco := cnt_ok ps c n b
  have ew : IntKind.i64.wrap (cnt ps c n b - 1) = cnt ps c n b - 1 := wrap64 (by omega) (by omega)
  have z1 : ((0 : Int) != 0) = false := by decide
  have z2 : ((0 : Int) == 0) = true := by decide
  have hd : (decide (0 ≤ x) && decide (x ≤ cnt ps c n b - 1)) = true := by
    rw [Bool.and_eq_true, decide_eq_true_eq, decide_eq_true_eq]
    omega
  obtain ⟨row, hr, a1, a2, a3⟩ := nth40 (ra := (n : Int)) (rb := (b : Int)) (rc := (c : Int)) (t5 := 0) hps hn hb hx.1 hx.2 hs
  obtain ⟨row', hr', b1, b2, b3⟩ := nth41 (ra := (n : Int)) (rb := (b : Int)) (rc := (c : Int)) (t5 := 0) hps hn hb hx.1 hx.2 hs
  have : row' = row := NthR_uniq hps hr' hs hr
  subst this
  refine ⟨row', hr, ?_⟩
  unfold g40 w40_1 w40_0 t40 g41 w41_1 w41_0 t41
  simp only [g1, g2, h1, h2, h3, h4, z1, z2, p0, p1, o1, o2, tab_len, ib, i0, cb, Int.toNat_natCast, Nat.zero_add, Nat.mul_one, o3, ew, g55_true, (w57_eq _ _ _).1, g55_57, w55_eq, hd]
  unfold i40a_0 i41a_0 v40a_0_t9 v41a_0_t8
  rw [a3, b3]
  exact ⟨⟨rfl, rfl, rfl⟩, rfl, rfl, rfl⟩
end Go.Proofs.Ytgifjphinkbcaaa

set_option maxRecDepth 100000
set_option linter.unusedVariables false
namespace Go.Proofs.Ytgifjphinkbcaaa
open Go Go.Ev

/-! ### Rank -/
noncomputable def c42 : Code := match Try.f42.body with | some c => c | _ => .skip
noncomputable def lp42a : Code := loopAt c42 [true, true, true, true, true, false, true, false]
noncomputable def s42a (ra : Int) (rb : Int) (rc : Int) (ps : List (List AV)) (t4 : Int) (t5 : Int) (t6 : List (List AV)) (t8 : Int) (ws : List (List AV)) (t31 : Int) (t32 : Int) (m18_0 : Int) (m18_1 : Int) : St :=
  { t := [(2, .rp [.int .i64, .int .i64, .int .i64, .sl 31] [.i .i64 ra, .i .i64 rb, .i .i64 rc, .rs 31 ps] 0), (4, .i .i64 t4), (5, .i .i64 t5), (6, .rs 91 t6), (8, .i .i64 t8), (9, .p 18 0 0), (30, .rs 3 ws), (31, .i .i64 t31), (32, .i .i64 t32)], m := [(0, .dead), (1, .dead), (2, .dead), (3, .dead), (4, .dead), (5, .dead), (6, .dead), (7, .dead), (8, .dead), (9, .dead), (10, .dead), (11, .dead), (12, .dead), (13, .dead), (14, .dead), (15, .dead), (16, .dead), (17, .dead), (18, .row 78 [[.i .i64 m18_0, .i .i64 m18_1]])], nx := 19, nt := 70 }
noncomputable def lp42aa : Code := loopAt c42 [true, true, true, true, true, false, true, false, false, true, true, false, false, true, false, true, false]
noncomputable def s42aa (ra : Int) (rb : Int) (rc : Int) (ps : List (List AV)) (t4 : Int) (t5 : Int) (t6 : List (List AV)) (t8 : Int) (t11 : Int) (ws : List (List AV)) (t31 : Int) (t32 : Int) (t39 : List (List AV)) (t40 : Int) (t41 : Int) (m18_0 : Int) (m18_1 : Int) : St :=
  { t := [(2, .rp [.int .i64, .int .i64, .int .i64, .sl 31] [.i .i64 ra, .i .i64 rb, .i .i64 rc, .rs 31 ps] 0), (4, .i .i64 t4), (5, .i .i64 t5), (6, .rs 91 t6), (8, .i .i64 t8), (9, .p 18 0 0), (11, .i .i64 t11), (30, .rs 3 ws), (31, .i .i64 t31), (32, .i .i64 t32), (39, .rs 31 t39), (40, .i .i64 t40), (41, .i .i64 t41)], m := [(0, .dead), (1, .dead), (2, .dead), (3, .dead), (4, .dead), (5, .dead), (6, .dead), (7, .dead), (8, .dead), (9, .dead), (10, .dead), (11, .dead), (12, .dead), (13, .dead), (14, .dead), (15, .dead), (16, .dead), (17, .dead), (18, .row 78 [[.i .i64 m18_0, .i .i64 m18_1]])], nx := 19, nt := 70 }
structure S42aa where
  t8 : Int
  t41 : Int
inductive T42aa where
  | x0 (t8 : Int) (t41 : Int)
noncomputable def stp42aa (ra : Int) (rb : Int) (rc : Int) (ps : List (List AV)) (t4 : Int) (t5 : Int) (t6 : List (List AV)) (t11 : Int) (ws : List (List AV)) (t31 : Int) (t32 : Int) (t39 : List (List AV)) (t40 : Int) (m18_0 : Int) (m18_1 : Int) (t8 : Int) (t41 : Int) : Lp S42aa T42aa :=
  cond (decide (t41 < t40)) (cond (inb t41 t39.length) (cond (g71 m18_0 m18_1 (fS (t39.getD t41.toNat []) 0) (fI (t39.getD t41.toNat []) 1) (fI (t39.getD t41.toNat []) 2) (fI (t39.getD t41.toNat []) 3) (fI (t39.getD t41.toNat []) 4)) (cond (w71_2 m18_0 m18_1 (fS (t39.getD t41.toNat []) 0) (fI (t39.getD t41.toNat []) 1) (fI (t39.getD t41.toNat []) 2) (fI (t39.getD t41.toNat []) 3) (fI (t39.getD t41.toNat []) 4)) (cond (g51 t6 (w71_0 m18_0 m18_1 (fS (t39.getD t41.toNat []) 0) (fI (t39.getD t41.toNat []) 1) (fI (t39.getD t41.toNat []) 2) (fI (t39.getD t41.toNat []) 3) (fI (t39.getD t41.toNat []) 4)) (w71_1 m18_0 m18_1 (fS (t39.getD t41.toNat []) 0) (fI (t39.getD t41.toNat []) 1) (fI (t39.getD t41.toNat []) 2) (fI (t39.getD t41.toNat []) 3) (fI (t39.getD t41.toNat []) 4))) (.go ⟨IntKind.i64.wrap (t8 + w51_0 t6 (w71_0 m18_0 m18_1 (fS (t39.getD t41.toNat []) 0) (fI (t39.getD t41.toNat []) 1) (fI (t39.getD t41.toNat []) 2) (fI (t39.getD t41.toNat []) 3) (fI (t39.getD t41.toNat []) 4)) (w71_1 m18_0 m18_1 (fS (t39.getD t41.toNat []) 0) (fI (t39.getD t41.toNat []) 1) (fI (t39.getD t41.toNat []) 2) (fI (t39.getD t41.toNat []) 3) (fI (t39.getD t41.toNat []) 4))), IntKind.i64.wrap (t41 + 1)⟩) (.bad)) (.go ⟨t8, IntKind.i64.wrap (t41 + 1)⟩)) (.bad)) (.bad)) (.out (.x0 t8 t41))
noncomputable def o42aa_0 (ra : Int) (rb : Int) (rc : Int) (ps : List (List AV)) (t4 : Int) (t5 : Int) (t6 : List (List AV)) (t11 : Int) (ws : List (List AV)) (t31 : Int) (t32 : Int) (t39 : List (List AV)) (t40 : Int) (m18_0 : Int) (m18_1 : Int) (t8 : Int) (t41 : Int) : St :=
  { t := [(2, .rp [.int .i64, .int .i64, .int .i64, .sl 31] [.i .i64 ra, .i .i64 rb, .i .i64 rc, .rs 31 ps] 0), (4, .i .i64 t4), (5, .i .i64 t5), (6, .rs 91 t6), (8, .i .i64 t8), (9, .p 18 0 0), (11, .i .i64 t11), (30, .rs 3 ws), (31, .i .i64 t31), (32, .i .i64 t32), (39, .rs 31 t39), (40, .i .i64 t40), (41, .i .i64 t41)], m := [(0, .dead), (1, .dead), (2, .dead), (3, .dead), (4, .dead), (5, .dead), (6, .dead), (7, .dead), (8, .dead), (9, .dead), (10, .dead), (11, .dead), (12, .dead), (13, .dead), (14, .dead), (15, .dead), (16, .dead), (17, .dead), (18, .row 78 [[.i .i64 m18_0, .i .i64 m18_1]])], nx := 19, nt := 70 }
noncomputable def ou42aa (ra : Int) (rb : Int) (rc : Int) (ps : List (List AV)) (t4 : Int) (t5 : Int) (t6 : List (List AV)) (t11 : Int) (ws : List (List AV)) (t31 : Int) (t32 : Int) (t39 : List (List AV)) (t40 : Int) (m18_0 : Int) (m18_1 : Int) : T42aa → Ex × St
  | .x0 t8 t41 => (.ext 2, o42aa_0 ra rb rc ps t4 t5 t6 t11 ws t31 t32 t39 t40 m18_0 m18_1 t8 t41)
noncomputable def r42aa (ra : Int) (rb : Int) (rc : Int) (ps : List (List AV)) (t4 : Int) (t5 : Int) (t6 : List (List AV)) (t11 : Int) (ws : List (List AV)) (t31 : Int) (t32 : Int) (t39 : List (List AV)) (t40 : Int) (m18_0 : Int) (m18_1 : Int) (t8 : Int) (t41 : Int) : Option T42aa := run (fun x => stp42aa ra rb rc ps t4 t5 t6 t11 ws t31 t32 t39 t40 m18_0 m18_1 x.t8 x.t41) (⟨t8, t41⟩ : S42aa)
noncomputable def i42aa_0 (ra : Int) (rb : Int) (rc : Int) (ps : List (List AV)) (t4 : Int) (t5 : Int) (t6 : List (List AV)) (t11 : Int) (ws : List (List AV)) (t31 : Int) (t32 : Int) (t39 : List (List AV)) (t40 : Int) (m18_0 : Int) (m18_1 : Int) (t8 : Int) (t41 : Int) : Bool := match r42aa ra rb rc ps t4 t5 t6 t11 ws t31 t32 t39 t40 m18_0 m18_1 t8 t41 with
  | some (.x0 _ _) => true
  | _ => false
noncomputable def v42aa_0_t8 (ra : Int) (rb : Int) (rc : Int) (ps : List (List AV)) (t4 : Int) (t5 : Int) (t6 : List (List AV)) (t11 : Int) (ws : List (List AV)) (t31 : Int) (t32 : Int) (t39 : List (List AV)) (t40 : Int) (m18_0 : Int) (m18_1 : Int) (t8 : Int) (t41 : Int) : Int := match r42aa ra rb rc ps t4 t5 t6 t11 ws t31 t32 t39 t40 m18_0 m18_1 t8 t41 with
  | some (.x0 t8 _) => t8
  | _ => default
noncomputable def v42aa_0_t41 (ra : Int) (rb : Int) (rc : Int) (ps : List (List AV)) (t4 : Int) (t5 : Int) (t6 : List (List AV)) (t11 : Int) (ws : List (List AV)) (t31 : Int) (t32 : Int) (t39 : List (List AV)) (t40 : Int) (m18_0 : Int) (m18_1 : Int) (t8 : Int) (t41 : Int) : Int := match r42aa ra rb rc ps t4 t5 t6 t11 ws t31 t32 t39 t40 m18_0 m18_1 t8 t41 with
  | some (.x0 _ t41) => t41
  | _ => default
noncomputable def l42aa (st : St) : Option (List (Bool × Ex × St)) := match normW Try.prog [(2, none), (4, none), (5, none), (6, none), (8, none), (9, none), (11, none), (30, none), (31, none), (32, none), (39, none), (40, none), (41, none)] 19 st with
  | some ([.rp [.int .i64, .int .i64, .int .i64, .sl 31] [.i .i64 ra, .i .i64 rb, .i .i64 rc, .rs 31 ps] 0, .i .i64 t4, .i .i64 t5, .rs 91 t6, .i .i64 t8, .p 18 0 0, .i .i64 t11, .rs 3 ws, .i .i64 t31, .i .i64 t32, .rs 31 t39, .i .i64 t40, .i .i64 t41], [(0, .dead), (1, .dead), (2, .dead), (3, .dead), (4, .dead), (5, .dead), (6, .dead), (7, .dead), (8, .dead), (9, .dead), (10, .dead), (11, .dead), (12, .dead), (13, .dead), (14, .dead), (15, .dead), (16, .dead), (17, .dead), (18, .row 78 [[.i .i64 m18_0, .i .i64 m18_1]])], 19, 70) => some [(i42aa_0 ra rb rc ps t4 t5 t6 t11 ws t31 t32 t39 t40 m18_0 m18_1 t8 t41, .ext 2, o42aa_0 ra rb rc ps t4 t5 t6 t11 ws t31 t32 t39 t40 m18_0 m18_1 (v42aa_0_t8 ra rb rc ps t4 t5 t6 t11 ws t31 t32 t39 t40 m18_0 m18_1 t8 t41) (v42aa_0_t41 ra rb rc ps t4 t5 t6 t11 ws t31 t32 t39 t40 m18_0 m18_1 t8 t41))]
  | _ => none
structure S42a where
  t8 : Int
  t32 : Int
  m18_0 : Int
  m18_1 : Int
inductive T42a where
  | x0 (t8 : Int) (t32 : Int) (m18_0 : Int) (m18_1 : Int)
noncomputable def stp42a (ra : Int) (rb : Int) (rc : Int) (ps : List (List AV)) (t4 : Int) (t5 : Int) (t6 : List (List AV)) (ws : List (List AV)) (t31 : Int) (t8 : Int) (t32 : Int) (m18_0 : Int) (m18_1 : Int) : Lp S42a T42a :=
  cond (decide (t32 < t31)) (cond (inb t32 ws.length) (cond (decide (0 ≤ fI (ws.getD t32.toNat []) 0) && decide (fI (ws.getD t32.toNat []) 0 ≤ (↑ps.length : Int))) (cond (i42aa_0 ra rb rc ps t4 t5 t6 (fI (ws.getD t32.toNat []) 0) ws t31 t32 (List.drop 0 (List.take (fI (ws.getD t32.toNat []) 0).toNat ps)) (↑(List.drop 0 (List.take (fI (ws.getD t32.toNat []) 0).toNat ps)).length : Int) m18_0 m18_1 t8 0) (cond (inb (fI (ws.getD t32.toNat []) 0) ps.length) (cond (g71 m18_0 m18_1 (fS (ps.getD (fI (ws.getD t32.toNat []) 0).toNat []) 0) (fI (ps.getD (fI (ws.getD t32.toNat []) 0).toNat []) 1) (fI (ps.getD (fI (ws.getD t32.toNat []) 0).toNat []) 2) (fI (ps.getD (fI (ws.getD t32.toNat []) 0).toNat []) 3) (fI (ps.getD (fI (ws.getD t32.toNat []) 0).toNat []) 4)) (.go ⟨v42aa_0_t8 ra rb rc ps t4 t5 t6 (fI (ws.getD t32.toNat []) 0) ws t31 t32 (List.drop 0 (List.take (fI (ws.getD t32.toNat []) 0).toNat ps)) (↑(List.drop 0 (List.take (fI (ws.getD t32.toNat []) 0).toNat ps)).length : Int) m18_0 m18_1 t8 0, IntKind.i64.wrap (t32 + 1), w71_0 m18_0 m18_1 (fS (ps.getD (fI (ws.getD t32.toNat []) 0).toNat []) 0) (fI (ps.getD (fI (ws.getD t32.toNat []) 0).toNat []) 1) (fI (ps.getD (fI (ws.getD t32.toNat []) 0).toNat []) 2) (fI (ps.getD (fI (ws.getD t32.toNat []) 0).toNat []) 3) (fI (ps.getD (fI (ws.getD t32.toNat []) 0).toNat []) 4), w71_1 m18_0 m18_1 (fS (ps.getD (fI (ws.getD t32.toNat []) 0).toNat []) 0) (fI (ps.getD (fI (ws.getD t32.toNat []) 0).toNat []) 1) (fI (ps.getD (fI (ws.getD t32.toNat []) 0).toNat []) 2) (fI (ps.getD (fI (ws.getD t32.toNat []) 0).toNat []) 3) (fI (ps.getD (fI (ws.getD t32.toNat []) 0).toNat []) 4)⟩) (.bad)) (.bad)) (.bad)) (.bad)) (.bad)) (.out (.x0 t8 t32 m18_0 m18_1))
noncomputable def o42a_0 (ra : Int) (rb : Int) (rc : Int) (ps : List (List AV)) (t4 : Int) (t5 : Int) (t6 : List (List AV)) (ws : List (List AV)) (t31 : Int) (t8 : Int) (t32 : Int) (m18_0 : Int) (m18_1 : Int) : St :=
  { t := [(2, .rp [.int .i64, .int .i64, .int .i64, .sl 31] [.i .i64 ra, .i .i64 rb, .i .i64 rc, .rs 31 ps] 0), (4, .i .i64 t4), (5, .i .i64 t5), (6, .rs 91 t6), (8, .i .i64 t8), (9, .p 18 0 0), (30, .rs 3 ws), (31, .i .i64 t31), (32, .i .i64 t32)], m := [(0, .dead), (1, .dead), (2, .dead), (3, .dead), (4, .dead), (5, .dead), (6, .dead), (7, .dead), (8, .dead), (9, .dead), (10, .dead), (11, .dead), (12, .dead), (13, .dead), (14, .dead), (15, .dead), (16, .dead), (17, .dead), (18, .row 78 [[.i .i64 m18_0, .i .i64 m18_1]])], nx := 19, nt := 70 }
noncomputable def ou42a (ra : Int) (rb : Int) (rc : Int) (ps : List (List AV)) (t4 : Int) (t5 : Int) (t6 : List (List AV)) (ws : List (List AV)) (t31 : Int) : T42a → Ex × St
  | .x0 t8 t32 m18_0 m18_1 => (.ext 0, o42a_0 ra rb rc ps t4 t5 t6 ws t31 t8 t32 m18_0 m18_1)
noncomputable def r42a (ra : Int) (rb : Int) (rc : Int) (ps : List (List AV)) (t4 : Int) (t5 : Int) (t6 : List (List AV)) (ws : List (List AV)) (t31 : Int) (t8 : Int) (t32 : Int) (m18_0 : Int) (m18_1 : Int) : Option T42a := run (fun x => stp42a ra rb rc ps t4 t5 t6 ws t31 x.t8 x.t32 x.m18_0 x.m18_1) (⟨t8, t32, m18_0, m18_1⟩ : S42a)
noncomputable def i42a_0 (ra : Int) (rb : Int) (rc : Int) (ps : List (List AV)) (t4 : Int) (t5 : Int) (t6 : List (List AV)) (ws : List (List AV)) (t31 : Int) (t8 : Int) (t32 : Int) (m18_0 : Int) (m18_1 : Int) : Bool := match r42a ra rb rc ps t4 t5 t6 ws t31 t8 t32 m18_0 m18_1 with
  | some (.x0 _ _ _ _) => true
  | _ => false
noncomputable def v42a_0_t8 (ra : Int) (rb : Int) (rc : Int) (ps : List (List AV)) (t4 : Int) (t5 : Int) (t6 : List (List AV)) (ws : List (List AV)) (t31 : Int) (t8 : Int) (t32 : Int) (m18_0 : Int) (m18_1 : Int) : Int := match r42a ra rb rc ps t4 t5 t6 ws t31 t8 t32 m18_0 m18_1 with
  | some (.x0 t8 _ _ _) => t8
  | _ => default
noncomputable def v42a_0_t32 (ra : Int) (rb : Int) (rc : Int) (ps : List (List AV)) (t4 : Int) (t5 : Int) (t6 : List (List AV)) (ws : List (List AV)) (t31 : Int) (t8 : Int) (t32 : Int) (m18_0 : Int) (m18_1 : Int) : Int := match r42a ra rb rc ps t4 t5 t6 ws t31 t8 t32 m18_0 m18_1 with
  | some (.x0 _ t32 _ _) => t32
  | _ => default
noncomputable def v42a_0_m18_0 (ra : Int) (rb : Int) (rc : Int) (ps : List (List AV)) (t4 : Int) (t5 : Int) (t6 : List (List AV)) (ws : List (List AV)) (t31 : Int) (t8 : Int) (t32 : Int) (m18_0 : Int) (m18_1 : Int) : Int := match r42a ra rb rc ps t4 t5 t6 ws t31 t8 t32 m18_0 m18_1 with
  | some (.x0 _ _ m18_0 _) => m18_0
  | _ => default
noncomputable def v42a_0_m18_1 (ra : Int) (rb : Int) (rc : Int) (ps : List (List AV)) (t4 : Int) (t5 : Int) (t6 : List (List AV)) (ws : List (List AV)) (t31 : Int) (t8 : Int) (t32 : Int) (m18_0 : Int) (m18_1 : Int) : Int := match r42a ra rb rc ps t4 t5 t6 ws t31 t8 t32 m18_0 m18_1 with
  | some (.x0 _ _ _ m18_1) => m18_1
  | _ => default
noncomputable def l42a (st : St) : Option (List (Bool × Ex × St)) := match normW Try.prog [(2, none), (4, none), (5, none), (6, none), (8, none), (9, none), (30, none), (31, none), (32, none)] 19 st with
  | some ([.rp [.int .i64, .int .i64, .int .i64, .sl 31] [.i .i64 ra, .i .i64 rb, .i .i64 rc, .rs 31 ps] 0, .i .i64 t4, .i .i64 t5, .rs 91 t6, .i .i64 t8, .p 18 0 0, .rs 3 ws, .i .i64 t31, .i .i64 t32], [(0, .dead), (1, .dead), (2, .dead), (3, .dead), (4, .dead), (5, .dead), (6, .dead), (7, .dead), (8, .dead), (9, .dead), (10, .dead), (11, .dead), (12, .dead), (13, .dead), (14, .dead), (15, .dead), (16, .dead), (17, .dead), (18, .row 78 [[.i .i64 m18_0, .i .i64 m18_1]])], 19, 70) => some [(i42a_0 ra rb rc ps t4 t5 t6 ws t31 t8 t32 m18_0 m18_1, .ext 0, o42a_0 ra rb rc ps t4 t5 t6 ws t31 (v42a_0_t8 ra rb rc ps t4 t5 t6 ws t31 t8 t32 m18_0 m18_1) (v42a_0_t32 ra rb rc ps t4 t5 t6 ws t31 t8 t32 m18_0 m18_1) (v42a_0_m18_0 ra rb rc ps t4 t5 t6 ws t31 t8 t32 m18_0 m18_1) (v42a_0_m18_1 ra rb rc ps t4 t5 t6 ws t31 t8 t32 m18_0 m18_1))]
  | _ => none
noncomputable def L42 : LSpec := fun p st => match p with
  | [false, true, false, true, false, false, true, true, false, false, true, false, true, true, true, true, true] => l42aa st
  | [false, true, false, true, true, true, true, true] => l42a st
  | _ => none
theorem is42aa_0 (ra : Int) (rb : Int) (rc : Int) (ps : List (List AV)) (t4 : Int) (t5 : Int) (t6 : List (List AV)) (t11 : Int) (ws : List (List AV)) (t31 : Int) (t32 : Int) (t39 : List (List AV)) (t40 : Int) (m18_0 : Int) (m18_1 : Int) (t8 : Int) (t41 : Int) (h : i42aa_0 ra rb rc ps t4 t5 t6 t11 ws t31 t32 t39 t40 m18_0 m18_1 t8 t41 = true) : r42aa ra rb rc ps t4 t5 t6 t11 ws t31 t32 t39 t40 m18_0 m18_1 t8 t41 = some (.x0 (v42aa_0_t8 ra rb rc ps t4 t5 t6 t11 ws t31 t32 t39 t40 m18_0 m18_1 t8 t41) (v42aa_0_t41 ra rb rc ps t4 t5 t6 t11 ws t31 t32 t39 t40 m18_0 m18_1 t8 t41)) := by
  unfold i42aa_0 at h
  unfold v42aa_0_t8 v42aa_0_t41
  generalize r42aa ra rb rc ps t4 t5 t6 t11 ws t31 t32 t39 t40 m18_0 m18_1 t8 t41 = r at h ⊢
  rcases r with _ | y
  · cases h
  · cases y <;> first | rfl | cases h
theorem round42aa (ra : Int) (rb : Int) (rc : Int) (ps : List (List AV)) (t4 : Int) (t5 : Int) (t6 : List (List AV)) (t8 : Int) (t11 : Int) (ws : List (List AV)) (t31 : Int) (t32 : Int) (t39 : List (List AV)) (t40 : Int) (t41 : Int) (m18_0 : Int) (m18_1 : Int) : round Try.prog Sh (ro 42) L42 lp42aa [false, true, false, true, false, false, true, true, false, false, true, false, true, true, true, true, true] [(2, none), (4, none), (5, none), (6, none), (8, none), (9, none), (11, none), (30, none), (31, none), (32, none), (39, none), (40, none), (41, none)] 19 (s42aa ra rb rc ps t4 t5 t6 t8 t11 ws t31 t32 t39 t40 t41 m18_0 m18_1) =
    cond (decide (t41 < t40)) (cond (inb t41 t39.length) (cond (g71 m18_0 m18_1 (fS (t39.getD t41.toNat []) 0) (fI (t39.getD t41.toNat []) 1) (fI (t39.getD t41.toNat []) 2) (fI (t39.getD t41.toNat []) 3) (fI (t39.getD t41.toNat []) 4)) (cond (w71_2 m18_0 m18_1 (fS (t39.getD t41.toNat []) 0) (fI (t39.getD t41.toNat []) 1) (fI (t39.getD t41.toNat []) 2) (fI (t39.getD t41.toNat []) 3) (fI (t39.getD t41.toNat []) 4)) (cond (g51 t6 (w71_0 m18_0 m18_1 (fS (t39.getD t41.toNat []) 0) (fI (t39.getD t41.toNat []) 1) (fI (t39.getD t41.toNat []) 2) (fI (t39.getD t41.toNat []) 3) (fI (t39.getD t41.toNat []) 4)) (w71_1 m18_0 m18_1 (fS (t39.getD t41.toNat []) 0) (fI (t39.getD t41.toNat []) 1) (fI (t39.getD t41.toNat []) 2) (fI (t39.getD t41.toNat []) 3) (fI (t39.getD t41.toNat []) 4))) (some (.nrm, s42aa ra rb rc ps t4 t5 t6 (IntKind.i64.wrap (t8 + w51_0 t6 (w71_0 m18_0 m18_1 (fS (t39.getD t41.toNat []) 0) (fI (t39.getD t41.toNat []) 1) (fI (t39.getD t41.toNat []) 2) (fI (t39.getD t41.toNat []) 3) (fI (t39.getD t41.toNat []) 4)) (w71_1 m18_0 m18_1 (fS (t39.getD t41.toNat []) 0) (fI (t39.getD t41.toNat []) 1) (fI (t39.getD t41.toNat []) 2) (fI (t39.getD t41.toNat []) 3) (fI (t39.getD t41.toNat []) 4)))) t11 ws t31 t32 t39 t40 (IntKind.i64.wrap (t41 + 1)) m18_0 m18_1)) (none)) (some (.nrm, s42aa ra rb rc ps t4 t5 t6 t8 t11 ws t31 t32 t39 t40 (IntKind.i64.wrap (t41 + 1)) m18_0 m18_1))) (none)) (none)) (some (.ext 2, o42aa_0 ra rb rc ps t4 t5 t6 t11 ws t31 t32 t39 t40 m18_0 m18_1 t8 t41)) := by kernel_rfl
theorem rnd42aa (ra : Int) (rb : Int) (rc : Int) (ps : List (List AV)) (t4 : Int) (t5 : Int) (t6 : List (List AV)) (t11 : Int) (ws : List (List AV)) (t31 : Int) (t32 : Int) (t39 : List (List AV)) (t40 : Int) (m18_0 : Int) (m18_1 : Int) (x : S42aa) : round Try.prog Sh (ro 42) L42 lp42aa [false, true, false, true, false, false, true, true, false, false, true, false, true, true, true, true, true] [(2, none), (4, none), (5, none), (6, none), (8, none), (9, none), (11, none), (30, none), (31, none), (32, none), (39, none), (40, none), (41, none)] 19 ((fun x => s42aa ra rb rc ps t4 t5 t6 x.t8 t11 ws t31 t32 t39 t40 x.t41 m18_0 m18_1) x) = toR (fun x => s42aa ra rb rc ps t4 t5 t6 x.t8 t11 ws t31 t32 t39 t40 x.t41 m18_0 m18_1) (ou42aa ra rb rc ps t4 t5 t6 t11 ws t31 t32 t39 t40 m18_0 m18_1) (stp42aa ra rb rc ps t4 t5 t6 t11 ws t31 t32 t39 t40 m18_0 m18_1 x.t8 x.t41) := by
  refine (round42aa _ _ _ _ _ _ _ _ _ _ _ _ _ _ _ _ _ ).trans ?_
  unfold stp42aa
  simp only [toR_cond]
  rfl
theorem lok42aa {st : St} {outs : List (Bool × Ex × St)} {e : Ex} {s : St} (hl : l42aa st = some outs) (hch : Chosen outs e s) :
    ∃ keep nb, 0 ≤ nb ∧ LB Try.prog Sh (ro 42) L42 lp42aa [false, true, false, true, false, false, true, true, false, false, true, false, true, true, true, true, true] keep nb st e s := by
  unfold l42aa at hl
  split at hl
  · rename_i ra rb rc ps t4 t5 t6 t8 t11 ws t31 t32 t39 t40 t41 m18_0 m18_1 hno
    cases hl
    have hno := normW_norm hno
    refine ⟨_, _, ?_, .enter hno ?_⟩
    · decide
    have main := fun y h => LB_run (x := (⟨t8, t41⟩ : S42aa)) (y := y) (nb := 19) (fun y => by cases y <;> simp [ou42aa]) (rnd42aa ra rb rc ps t4 t5 t6 t11 ws t31 t32 t39 t40 m18_0 m18_1) h
    obtain ⟨x, hx, hg, rfl, rfl⟩ := chosen_any hch
    simp only [List.mem_cons, List.not_mem_nil, or_false] at hx
    subst hx
    exact main _ (is42aa_0 ra rb rc ps t4 t5 t6 t11 ws t31 t32 t39 t40 m18_0 m18_1 t8 t41 hg)
  · cases hl
theorem is42a_0 (ra : Int) (rb : Int) (rc : Int) (ps : List (List AV)) (t4 : Int) (t5 : Int) (t6 : List (List AV)) (ws : List (List AV)) (t31 : Int) (t8 : Int) (t32 : Int) (m18_0 : Int) (m18_1 : Int) (h : i42a_0 ra rb rc ps t4 t5 t6 ws t31 t8 t32 m18_0 m18_1 = true) : r42a ra rb rc ps t4 t5 t6 ws t31 t8 t32 m18_0 m18_1 = some (.x0 (v42a_0_t8 ra rb rc ps t4 t5 t6 ws t31 t8 t32 m18_0 m18_1) (v42a_0_t32 ra rb rc ps t4 t5 t6 ws t31 t8 t32 m18_0 m18_1) (v42a_0_m18_0 ra rb rc ps t4 t5 t6 ws t31 t8 t32 m18_0 m18_1) (v42a_0_m18_1 ra rb rc ps t4 t5 t6 ws t31 t8 t32 m18_0 m18_1)) := by
  unfold i42a_0 at h
  unfold v42a_0_t8 v42a_0_t32 v42a_0_m18_0 v42a_0_m18_1
  generalize r42a ra rb rc ps t4 t5 t6 ws t31 t8 t32 m18_0 m18_1 = r at h ⊢
  rcases r with _ | y
  · cases h
  · cases y <;> first | rfl | cases h
theorem round42a (ra : Int) (rb : Int) (rc : Int) (ps : List (List AV)) (t4 : Int) (t5 : Int) (t6 : List (List AV)) (t8 : Int) (ws : List (List AV)) (t31 : Int) (t32 : Int) (m18_0 : Int) (m18_1 : Int) : round Try.prog Sh (ro 42) L42 lp42a [false, true, false, true, true, true, true, true] [(2, none), (4, none), (5, none), (6, none), (8, none), (9, none), (30, none), (31, none), (32, none)] 19 (s42a ra rb rc ps t4 t5 t6 t8 ws t31 t32 m18_0 m18_1) =
    cond (decide (t32 < t31)) (cond (inb t32 ws.length) (cond (decide (0 ≤ fI (ws.getD t32.toNat []) 0) && decide (fI (ws.getD t32.toNat []) 0 ≤ (↑ps.length : Int))) (cond (i42aa_0 ra rb rc ps t4 t5 t6 (fI (ws.getD t32.toNat []) 0) ws t31 t32 (List.drop 0 (List.take (fI (ws.getD t32.toNat []) 0).toNat ps)) (↑(List.drop 0 (List.take (fI (ws.getD t32.toNat []) 0).toNat ps)).length : Int) m18_0 m18_1 t8 0) (cond (inb (fI (ws.getD t32.toNat []) 0) ps.length) (cond (g71 m18_0 m18_1 (fS (ps.getD (fI (ws.getD t32.toNat []) 0).toNat []) 0) (fI (ps.getD (fI (ws.getD t32.toNat []) 0).toNat []) 1) (fI (ps.getD (fI (ws.getD t32.toNat []) 0).toNat []) 2) (fI (ps.getD (fI (ws.getD t32.toNat []) 0).toNat []) 3) (fI (ps.getD (fI (ws.getD t32.toNat []) 0).toNat []) 4)) (some (.nrm, s42a ra rb rc ps t4 t5 t6 (v42aa_0_t8 ra rb rc ps t4 t5 t6 (fI (ws.getD t32.toNat []) 0) ws t31 t32 (List.drop 0 (List.take (fI (ws.getD t32.toNat []) 0).toNat ps)) (↑(List.drop 0 (List.take (fI (ws.getD t32.toNat []) 0).toNat ps)).length : Int) m18_0 m18_1 t8 0) ws t31 (IntKind.i64.wrap (t32 + 1)) (w71_0 m18_0 m18_1 (fS (ps.getD (fI (ws.getD t32.toNat []) 0).toNat []) 0) (fI (ps.getD (fI (ws.getD t32.toNat []) 0).toNat []) 1) (fI (ps.getD (fI (ws.getD t32.toNat []) 0).toNat []) 2) (fI (ps.getD (fI (ws.getD t32.toNat []) 0).toNat []) 3) (fI (ps.getD (fI (ws.getD t32.toNat []) 0).toNat []) 4)) (w71_1 m18_0 m18_1 (fS (ps.getD (fI (ws.getD t32.toNat []) 0).toNat []) 0) (fI (ps.getD (fI (ws.getD t32.toNat []) 0).toNat []) 1) (fI (ps.getD (fI (ws.getD t32.toNat []) 0).toNat []) 2) (fI (ps.getD (fI (ws.getD t32.toNat []) 0).toNat []) 3) (fI (ps.getD (fI (ws.getD t32.toNat []) 0).toNat []) 4)))) (none)) (none)) (none)) (none)) (none)) (some (.ext 0, o42a_0 ra rb rc ps t4 t5 t6 ws t31 t8 t32 m18_0 m18_1)) := by kernel_rfl
theorem rnd42a (ra : Int) (rb : Int) (rc : Int) (ps : List (List AV)) (t4 : Int) (t5 : Int) (t6 : List (List AV)) (ws : List (List AV)) (t31 : Int) (x : S42a) : round Try.prog Sh (ro 42) L42 lp42a [false, true, false, true, true, true, true, true] [(2, none), (4, none), (5, none), (6, none), (8, none), (9, none), (30, none), (31, none), (32, none)] 19 ((fun x => s42a ra rb rc ps t4 t5 t6 x.t8 ws t31 x.t32 x.m18_0 x.m18_1) x) = toR (fun x => s42a ra rb rc ps t4 t5 t6 x.t8 ws t31 x.t32 x.m18_0 x.m18_1) (ou42a ra rb rc ps t4 t5 t6 ws t31) (stp42a ra rb rc ps t4 t5 t6 ws t31 x.t8 x.t32 x.m18_0 x.m18_1) := by
  refine (round42a _ _ _ _ _ _ _ _ _ _ _ _ _ ).trans ?_
  unfold stp42a
  simp only [toR_cond]
  rfl
theorem lok42a {st : St} {outs : List (Bool × Ex × St)} {e : Ex} {s : St} (hl : l42a st = some outs) (hch : Chosen outs e s) :
    ∃ keep nb, 0 ≤ nb ∧ LB Try.prog Sh (ro 42) L42 lp42a [false, true, false, true, true, true, true, true] keep nb st e s := by
  unfold l42a at hl
  split at hl
  · rename_i ra rb rc ps t4 t5 t6 t8 ws t31 t32 m18_0 m18_1 hno
    cases hl
    have hno := normW_norm hno
    refine ⟨_, _, ?_, .enter hno ?_⟩
    · decide
    have main := fun y h => LB_run (x := (⟨t8, t32, m18_0, m18_1⟩ : S42a)) (y := y) (nb := 19) (fun y => by cases y <;> simp [ou42a]) (rnd42a ra rb rc ps t4 t5 t6 ws t31) h
    obtain ⟨x, hx, hg, rfl, rfl⟩ := chosen_any hch
    simp only [List.mem_cons, List.not_mem_nil, or_false] at hx
    subst hx
    exact main _ (is42a_0 ra rb rc ps t4 t5 t6 ws t31 t8 t32 m18_0 m18_1 hg)
  · cases hl
theorem L42_ok (q : Pl) (c : Code) (hq : locate c42 q.reverse = some (.loop c)) (st : St) (outs : List (Bool × Ex × St)) (e : Ex) (s : St) (hl : L42 q st = some outs) (hch : Chosen outs e s) :
    ∃ keep nb, 0 ≤ nb ∧ LB Try.prog Sh (ro 42) L42 c q keep nb st e s := by
  unfold L42 at hl
  split at hl
  · have : locate c42 ([false, true, false, true, false, false, true, true, false, false, true, false, true, true, true, true, true] : Pl).reverse = some (.loop lp42aa) := by kernel_rfl
    rw [this] at hq
    cases hq
    exact lok42aa hl hch
  · have : locate c42 ([false, true, false, true, true, true, true, true] : Pl).reverse = some (.loop lp42a) := by kernel_rfl
    rw [this] at hq
    cases hq
    exact lok42a hl hch
  · cases hl
theorem lok42 : LOK Try.prog Sh (ro 42) L42 0 false c42 [] :=
  lok_lo L42_ok c42 [] false (locate_nil _) (by kernel_rfl)
noncomputable def t42 (ra rb rc : Int) (ps : List (List AV)) (ws : List (List AV)) : Tr ((Int) × (Int)) :=
  .cn (g50 ra rb rc ps) (.cn (w50_1 ra rb rc ps != 0) (.lf (0, w50_1 ra rb rc ps)) (.cn (g64 ra rb rc ps ws) (.cn (!w64_0 ra rb rc ps ws) (.lf (0, 8)) (.cn (i42a_0 ra rb rc ps 0 0 (w50_0 ra rb rc ps) ws (↑ws.length : Int) 0 0 (w52_0 ra rb rc ps) (w52_1 ra rb rc ps)) (.lf (v42a_0_t8 ra rb rc ps 0 0 (w50_0 ra rb rc ps) ws (↑ws.length : Int) 0 0 (w52_0 ra rb rc ps) (w52_1 ra rb rc ps), 0)) (.nn))) (.nn))) (.nn)
noncomputable def g42 (ra rb rc : Int) (ps : List (List AV)) (ws : List (List AV)) : Bool := (t42 ra rb rc ps ws).g
noncomputable def w42_0 (ra rb rc : Int) (ps : List (List AV)) (ws : List (List AV)) : Int := (t42 ra rb rc ps ws).val.1
noncomputable def w42_1 (ra rb rc : Int) (ps : List (List AV)) (ws : List (List AV)) : Int := (t42 ra rb rc ps ws).val.2
theorem eq42 (ra rb rc : Int) (ps : List (List AV)) (ws : List (List AV)) : evF Try.prog Sh (ro 42) L42 Try.f42 [.agg [.i .i64 ra, .i .i64 rb, .i .i64 rc, .rs 31 ps], .rs 3 ws] = (t42 ra rb rc ps ws).opt (fun (x : (Int) × (Int)) => (.tup [.i .i64 x.1, .i .i64 x.2] : AV)) := by kernel_rfl
theorem con42 (ra rb rc : Int) (ps : List (List AV)) (ws : List (List AV)) (h : g42 ra rb rc ps ws = true) : Con Try.prog 42 [.agg [.i .i64 ra, .i .i64 rb, .i .i64 rc, .rs 31 ps], .rs 3 ws] [] (.tup [.i .i64 (w42_0 ra rb rc ps ws), .i .i64 (w42_1 ra rb rc ps ws)]) [] :=
  con_of Sh_ok mixed Try.func42 (c := c42) rfl (names 42 _ Try.func42) lok42 ((eq42 ra rb rc ps ws).trans (Tr.sound _ _ h))
noncomputable def e42 (args : List AV) (rows : List Blk) : Option (Bool × AV × List Blk) := match args, rows with
  | [.agg [.i .i64 ra, .i .i64 rb, .i .i64 rc, .rs 31 ps], .rs 3 ws], [] => some (g42 ra rb rc ps ws, .tup [.i .i64 (w42_0 ra rb rc ps ws), .i .i64 (w42_1 ra rb rc ps ws)], [])
  | _, _ => none
theorem e42_ok (args : List AV) (rows : List Blk) (pre : Bool) (v : AV) (rows' : List Blk) (h : e42 args rows = some (pre, v, rows')) (hp : pre = true) : Con Try.prog 42 args rows v rows' := by
  unfold e42 at h
  split at h
  · cases h; exact con42 _ _ _ _ _ hp
  · cases h
-- SPEC 42
end Go.Proofs.Ytgifjphinkbcaaa

set_option maxRecDepth 100000
set_option linter.unusedVariables false
namespace Go.Proofs.Ytgifjphinkbcaaa
open Go Go.Ev

/-! ### ref Rank -/
noncomputable def c43 : Code := match Try.f43.body with | some c => c | _ => .skip
noncomputable def lp43a : Code := loopAt c43 [true, true, true, true, true, false, true, false]
noncomputable def s43a (ws : List (List AV)) (ra : Int) (rb : Int) (rc : Int) (ps : List (List AV)) (t4 : Int) (t5 : Int) (t6 : List (List AV)) (t8 : Int) (t9 : Int) (t10 : Int) (t11 : Int) : St :=
  { t := [(1, .rs 3 ws), (2, .rp [.int .i64, .int .i64, .int .i64, .sl 31] [.i .i64 ra, .i .i64 rb, .i .i64 rc, .rs 31 ps] 0), (4, .i .i64 t4), (5, .i .i64 t5), (6, .rs 91 t6), (8, .i .i64 t8), (9, .i .i64 t9), (10, .i .i64 t10), (11, .i .i64 t11)], m := [], nx := 0, nt := 91 }
noncomputable def lp43aa : Code := loopAt c43 [true, true, true, true, true, false, true, false, false, true, false, false, false, true, false]
noncomputable def s43aa (ws : List (List AV)) (ra : Int) (rb : Int) (rc : Int) (ps : List (List AV)) (t4 : Int) (t5 : Int) (t6 : List (List AV)) (t8 : Int) (t9 : Int) (t10 : Int) (t11 : Int) (t12 : Int) : St :=
  { t := [(1, .rs 3 ws), (2, .rp [.int .i64, .int .i64, .int .i64, .sl 31] [.i .i64 ra, .i .i64 rb, .i .i64 rc, .rs 31 ps] 0), (4, .i .i64 t4), (5, .i .i64 t5), (6, .rs 91 t6), (8, .i .i64 t8), (9, .i .i64 t9), (10, .i .i64 t10), (11, .i .i64 t11), (12, .i .i64 t12)], m := [], nx := 0, nt := 91 }
structure S43aa where
  t8 : Int
  t12 : Int
inductive T43aa where
  | x0 (t8 : Int) (t12 : Int)
noncomputable def stp43aa (ws : List (List AV)) (ra : Int) (rb : Int) (rc : Int) (ps : List (List AV)) (t4 : Int) (t5 : Int) (t6 : List (List AV)) (t9 : Int) (t10 : Int) (t11 : Int) (t8 : Int) (t12 : Int) : Lp S43aa T43aa :=
  cond (inb t11 ws.length) (cond (decide (t12 < fI (ws.getD t11.toNat []) 0)) (cond (inb t12 ps.length) (cond (fI (ps.getD t12.toNat []) 2 == t10) (cond (decide (fI (ps.getD t12.toNat []) 1 ≤ t9)) (cond (inb (IntKind.i64.wrap (t9 - fI (ps.getD t12.toNat []) 1)) t6.length) (cond (inb (fI (ps.getD t12.toNat []) 3) 10) (cond (ctsAt (cts Try.prog 91) (0 + (fI (ps.getD t12.toNat []) 3).toNat * 1) (cts Try.prog 3)) (.go ⟨IntKind.i64.wrap (t8 + toI ((t6.getD (IntKind.i64.wrap (t9 - fI (ps.getD t12.toNat []) 1)).toNat []).getD (0 + (fI (ps.getD t12.toNat []) 3).toNat * 1) AV.u)), IntKind.i64.wrap (t12 + 1)⟩) (.bad)) (.bad)) (.bad)) (.go ⟨t8, IntKind.i64.wrap (t12 + 1)⟩)) (.go ⟨t8, IntKind.i64.wrap (t12 + 1)⟩)) (.bad)) (.out (.x0 t8 t12))) (.bad)
noncomputable def o43aa_0 (ws : List (List AV)) (ra : Int) (rb : Int) (rc : Int) (ps : List (List AV)) (t4 : Int) (t5 : Int) (t6 : List (List AV)) (t9 : Int) (t10 : Int) (t11 : Int) (t8 : Int) (t12 : Int) : St :=
  { t := [(1, .rs 3 ws), (2, .rp [.int .i64, .int .i64, .int .i64, .sl 31] [.i .i64 ra, .i .i64 rb, .i .i64 rc, .rs 31 ps] 0), (4, .i .i64 t4), (5, .i .i64 t5), (6, .rs 91 t6), (8, .i .i64 t8), (9, .i .i64 t9), (10, .i .i64 t10), (11, .i .i64 t11), (12, .i .i64 t12)], m := [], nx := 0, nt := 91 }
noncomputable def ou43aa (ws : List (List AV)) (ra : Int) (rb : Int) (rc : Int) (ps : List (List AV)) (t4 : Int) (t5 : Int) (t6 : List (List AV)) (t9 : Int) (t10 : Int) (t11 : Int) : T43aa → Ex × St
  | .x0 t8 t12 => (.ext 2, o43aa_0 ws ra rb rc ps t4 t5 t6 t9 t10 t11 t8 t12)
noncomputable def r43aa (ws : List (List AV)) (ra : Int) (rb : Int) (rc : Int) (ps : List (List AV)) (t4 : Int) (t5 : Int) (t6 : List (List AV)) (t9 : Int) (t10 : Int) (t11 : Int) (t8 : Int) (t12 : Int) : Option T43aa := run (fun x => stp43aa ws ra rb rc ps t4 t5 t6 t9 t10 t11 x.t8 x.t12) (⟨t8, t12⟩ : S43aa)
noncomputable def i43aa_0 (ws : List (List AV)) (ra : Int) (rb : Int) (rc : Int) (ps : List (List AV)) (t4 : Int) (t5 : Int) (t6 : List (List AV)) (t9 : Int) (t10 : Int) (t11 : Int) (t8 : Int) (t12 : Int) : Bool := match r43aa ws ra rb rc ps t4 t5 t6 t9 t10 t11 t8 t12 with
  | some (.x0 _ _) => true
  | _ => false
noncomputable def v43aa_0_t8 (ws : List (List AV)) (ra : Int) (rb : Int) (rc : Int) (ps : List (List AV)) (t4 : Int) (t5 : Int) (t6 : List (List AV)) (t9 : Int) (t10 : Int) (t11 : Int) (t8 : Int) (t12 : Int) : Int := match r43aa ws ra rb rc ps t4 t5 t6 t9 t10 t11 t8 t12 with
  | some (.x0 t8 _) => t8
  | _ => default
noncomputable def v43aa_0_t12 (ws : List (List AV)) (ra : Int) (rb : Int) (rc : Int) (ps : List (List AV)) (t4 : Int) (t5 : Int) (t6 : List (List AV)) (t9 : Int) (t10 : Int) (t11 : Int) (t8 : Int) (t12 : Int) : Int := match r43aa ws ra rb rc ps t4 t5 t6 t9 t10 t11 t8 t12 with
  | some (.x0 _ t12) => t12
  | _ => default
noncomputable def l43aa (st : St) : Option (List (Bool × Ex × St)) := match normW Try.prog [(1, none), (2, none), (4, none), (5, none), (6, none), (8, none), (9, none), (10, none), (11, none), (12, none)] 0 st with
  | some ([.rs 3 ws, .rp [.int .i64, .int .i64, .int .i64, .sl 31] [.i .i64 ra, .i .i64 rb, .i .i64 rc, .rs 31 ps] 0, .i .i64 t4, .i .i64 t5, .rs 91 t6, .i .i64 t8, .i .i64 t9, .i .i64 t10, .i .i64 t11, .i .i64 t12], [], 0, 91) => some [(i43aa_0 ws ra rb rc ps t4 t5 t6 t9 t10 t11 t8 t12, .ext 2, o43aa_0 ws ra rb rc ps t4 t5 t6 t9 t10 t11 (v43aa_0_t8 ws ra rb rc ps t4 t5 t6 t9 t10 t11 t8 t12) (v43aa_0_t12 ws ra rb rc ps t4 t5 t6 t9 t10 t11 t8 t12))]
  | _ => none
structure S43a where
  t8 : Int
  t9 : Int
  t10 : Int
  t11 : Int
inductive T43a where
  | x0 (t8 : Int) (t9 : Int) (t10 : Int) (t11 : Int)
noncomputable def stp43a (ws : List (List AV)) (ra : Int) (rb : Int) (rc : Int) (ps : List (List AV)) (t4 : Int) (t5 : Int) (t6 : List (List AV)) (t8 : Int) (t9 : Int) (t10 : Int) (t11 : Int) : Lp S43a T43a :=
  cond (decide (t11 < (↑ws.length : Int))) (cond (i43aa_0 ws ra rb rc ps t4 t5 t6 t9 t10 t11 t8 0) (cond (inb t11 ws.length) (cond (inb (fI (ws.getD t11.toNat []) 0) ps.length) (.go ⟨v43aa_0_t8 ws ra rb rc ps t4 t5 t6 t9 t10 t11 t8 0, IntKind.i64.wrap (t9 - fI (ps.getD (fI (ws.getD t11.toNat []) 0).toNat []) 1), fI (ps.getD (fI (ws.getD t11.toNat []) 0).toNat []) 3, IntKind.i64.wrap (t11 + 1)⟩) (.bad)) (.bad)) (.bad)) (.out (.x0 t8 t9 t10 t11))
noncomputable def o43a_0 (ws : List (List AV)) (ra : Int) (rb : Int) (rc : Int) (ps : List (List AV)) (t4 : Int) (t5 : Int) (t6 : List (List AV)) (t8 : Int) (t9 : Int) (t10 : Int) (t11 : Int) : St :=
  { t := [(1, .rs 3 ws), (2, .rp [.int .i64, .int .i64, .int .i64, .sl 31] [.i .i64 ra, .i .i64 rb, .i .i64 rc, .rs 31 ps] 0), (4, .i .i64 t4), (5, .i .i64 t5), (6, .rs 91 t6), (8, .i .i64 t8), (9, .i .i64 t9), (10, .i .i64 t10), (11, .i .i64 t11)], m := [], nx := 0, nt := 91 }
noncomputable def ou43a (ws : List (List AV)) (ra : Int) (rb : Int) (rc : Int) (ps : List (List AV)) (t4 : Int) (t5 : Int) (t6 : List (List AV)) : T43a → Ex × St
  | .x0 t8 t9 t10 t11 => (.ext 0, o43a_0 ws ra rb rc ps t4 t5 t6 t8 t9 t10 t11)
noncomputable def r43a (ws : List (List AV)) (ra : Int) (rb : Int) (rc : Int) (ps : List (List AV)) (t4 : Int) (t5 : Int) (t6 : List (List AV)) (t8 : Int) (t9 : Int) (t10 : Int) (t11 : Int) : Option T43a := run (fun x => stp43a ws ra rb rc ps t4 t5 t6 x.t8 x.t9 x.t10 x.t11) (⟨t8, t9, t10, t11⟩ : S43a)
noncomputable def i43a_0 (ws : List (List AV)) (ra : Int) (rb : Int) (rc : Int) (ps : List (List AV)) (t4 : Int) (t5 : Int) (t6 : List (List AV)) (t8 : Int) (t9 : Int) (t10 : Int) (t11 : Int) : Bool := match r43a ws ra rb rc ps t4 t5 t6 t8 t9 t10 t11 with
  | some (.x0 _ _ _ _) => true
  | _ => false
noncomputable def v43a_0_t8 (ws : List (List AV)) (ra : Int) (rb : Int) (rc : Int) (ps : List (List AV)) (t4 : Int) (t5 : Int) (t6 : List (List AV)) (t8 : Int) (t9 : Int) (t10 : Int) (t11 : Int) : Int := match r43a ws ra rb rc ps t4 t5 t6 t8 t9 t10 t11 with
  | some (.x0 t8 _ _ _) => t8
  | _ => default
noncomputable def v43a_0_t9 (ws : List (List AV)) (ra : Int) (rb : Int) (rc : Int) (ps : List (List AV)) (t4 : Int) (t5 : Int) (t6 : List (List AV)) (t8 : Int) (t9 : Int) (t10 : Int) (t11 : Int) : Int := match r43a ws ra rb rc ps t4 t5 t6 t8 t9 t10 t11 with
  | some (.x0 _ t9 _ _) => t9
  | _ => default
noncomputable def v43a_0_t10 (ws : List (List AV)) (ra : Int) (rb : Int) (rc : Int) (ps : List (List AV)) (t4 : Int) (t5 : Int) (t6 : List (List AV)) (t8 : Int) (t9 : Int) (t10 : Int) (t11 : Int) : Int := match r43a ws ra rb rc ps t4 t5 t6 t8 t9 t10 t11 with
  | some (.x0 _ _ t10 _) => t10
  | _ => default
noncomputable def v43a_0_t11 (ws : List (List AV)) (ra : Int) (rb : Int) (rc : Int) (ps : List (List AV)) (t4 : Int) (t5 : Int) (t6 : List (List AV)) (t8 : Int) (t9 : Int) (t10 : Int) (t11 : Int) : Int := match r43a ws ra rb rc ps t4 t5 t6 t8 t9 t10 t11 with
  | some (.x0 _ _ _ t11) => t11
  | _ => default
noncomputable def l43a (st : St) : Option (List (Bool × Ex × St)) := match normW Try.prog [(1, none), (2, none), (4, none), (5, none), (6, none), (8, none), (9, none), (10, none), (11, none)] 0 st with
  | some ([.rs 3 ws, .rp [.int .i64, .int .i64, .int .i64, .sl 31] [.i .i64 ra, .i .i64 rb, .i .i64 rc, .rs 31 ps] 0, .i .i64 t4, .i .i64 t5, .rs 91 t6, .i .i64 t8, .i .i64 t9, .i .i64 t10, .i .i64 t11], [], 0, 91) => some [(i43a_0 ws ra rb rc ps t4 t5 t6 t8 t9 t10 t11, .ext 0, o43a_0 ws ra rb rc ps t4 t5 t6 (v43a_0_t8 ws ra rb rc ps t4 t5 t6 t8 t9 t10 t11) (v43a_0_t9 ws ra rb rc ps t4 t5 t6 t8 t9 t10 t11) (v43a_0_t10 ws ra rb rc ps t4 t5 t6 t8 t9 t10 t11) (v43a_0_t11 ws ra rb rc ps t4 t5 t6 t8 t9 t10 t11))]
  | _ => none
noncomputable def L43 : LSpec := fun p st => match p with
  | [false, true, false, false, false, true, false, false, true, false, true, true, true, true, true] => l43aa st
  | [false, true, false, true, true, true, true, true] => l43a st
  | _ => none
theorem is43aa_0 (ws : List (List AV)) (ra : Int) (rb : Int) (rc : Int) (ps : List (List AV)) (t4 : Int) (t5 : Int) (t6 : List (List AV)) (t9 : Int) (t10 : Int) (t11 : Int) (t8 : Int) (t12 : Int) (h : i43aa_0 ws ra rb rc ps t4 t5 t6 t9 t10 t11 t8 t12 = true) : r43aa ws ra rb rc ps t4 t5 t6 t9 t10 t11 t8 t12 = some (.x0 (v43aa_0_t8 ws ra rb rc ps t4 t5 t6 t9 t10 t11 t8 t12) (v43aa_0_t12 ws ra rb rc ps t4 t5 t6 t9 t10 t11 t8 t12)) := by
  unfold i43aa_0 at h
  unfold v43aa_0_t8 v43aa_0_t12
  generalize r43aa ws ra rb rc ps t4 t5 t6 t9 t10 t11 t8 t12 = r at h ⊢
  rcases r with _ | y
  · cases h
  · cases y <;> first | rfl | cases h
theorem round43aa (ws : List (List AV)) (ra : Int) (rb : Int) (rc : Int) (ps : List (List AV)) (t4 : Int) (t5 : Int) (t6 : List (List AV)) (t8 : Int) (t9 : Int) (t10 : Int) (t11 : Int) (t12 : Int) : round Try.prog Sh (ro 43) L43 lp43aa [false, true, false, false, false, true, false, false, true, false, true, true, true, true, true] [(1, none), (2, none), (4, none), (5, none), (6, none), (8, none), (9, none), (10, none), (11, none), (12, none)] 0 (s43aa ws ra rb rc ps t4 t5 t6 t8 t9 t10 t11 t12) =
    cond (inb t11 ws.length) (cond (decide (t12 < fI (ws.getD t11.toNat []) 0)) (cond (inb t12 ps.length) (cond (fI (ps.getD t12.toNat []) 2 == t10) (cond (decide (fI (ps.getD t12.toNat []) 1 ≤ t9)) (cond (inb (IntKind.i64.wrap (t9 - fI (ps.getD t12.toNat []) 1)) t6.length) (cond (inb (fI (ps.getD t12.toNat []) 3) 10) (cond (ctsAt (cts Try.prog 91) (0 + (fI (ps.getD t12.toNat []) 3).toNat * 1) (cts Try.prog 3)) (some (.nrm, s43aa ws ra rb rc ps t4 t5 t6 (IntKind.i64.wrap (t8 + toI ((t6.getD (IntKind.i64.wrap (t9 - fI (ps.getD t12.toNat []) 1)).toNat []).getD (0 + (fI (ps.getD t12.toNat []) 3).toNat * 1) AV.u))) t9 t10 t11 (IntKind.i64.wrap (t12 + 1)))) (none)) (none)) (none)) (some (.nrm, s43aa ws ra rb rc ps t4 t5 t6 t8 t9 t10 t11 (IntKind.i64.wrap (t12 + 1))))) (some (.nrm, s43aa ws ra rb rc ps t4 t5 t6 t8 t9 t10 t11 (IntKind.i64.wrap (t12 + 1))))) (none)) (some (.ext 2, o43aa_0 ws ra rb rc ps t4 t5 t6 t9 t10 t11 t8 t12))) (none) := by kernel_rfl
theorem rnd43aa (ws : List (List AV)) (ra : Int) (rb : Int) (rc : Int) (ps : List (List AV)) (t4 : Int) (t5 : Int) (t6 : List (List AV)) (t9 : Int) (t10 : Int) (t11 : Int) (x : S43aa) : round Try.prog Sh (ro 43) L43 lp43aa [false, true, false, false, false, true, false, false, true, false, true, true, true, true, true] [(1, none), (2, none), (4, none), (5, none), (6, none), (8, none), (9, none), (10, none), (11, none), (12, none)] 0 ((fun x => s43aa ws ra rb rc ps t4 t5 t6 x.t8 t9 t10 t11 x.t12) x) = toR (fun x => s43aa ws ra rb rc ps t4 t5 t6 x.t8 t9 t10 t11 x.t12) (ou43aa ws ra rb rc ps t4 t5 t6 t9 t10 t11) (stp43aa ws ra rb rc ps t4 t5 t6 t9 t10 t11 x.t8 x.t12) := by
  refine (round43aa _ _ _ _ _ _ _ _ _ _ _ _ _ ).trans ?_
  unfold stp43aa
  simp only [toR_cond]
  rfl
theorem lok43aa {st : St} {outs : List (Bool × Ex × St)} {e : Ex} {s : St} (hl : l43aa st = some outs) (hch : Chosen outs e s) :
    ∃ keep nb, 0 ≤ nb ∧ LB Try.prog Sh (ro 43) L43 lp43aa [false, true, false, false, false, true, false, false, true, false, true, true, true, true, true] keep nb st e s := by
  unfold l43aa at hl
  split at hl
  · rename_i ws ra rb rc ps t4 t5 t6 t8 t9 t10 t11 t12 hno
    cases hl
    have hno := normW_norm hno
    refine ⟨_, _, ?_, .enter hno ?_⟩
    · decide
    have main := fun y h => LB_run (x := (⟨t8, t12⟩ : S43aa)) (y := y) (nb := 0) (fun y => by cases y <;> simp [ou43aa]) (rnd43aa ws ra rb rc ps t4 t5 t6 t9 t10 t11) h
    obtain ⟨x, hx, hg, rfl, rfl⟩ := chosen_any hch
    simp only [List.mem_cons, List.not_mem_nil, or_false] at hx
    subst hx
    exact main _ (is43aa_0 ws ra rb rc ps t4 t5 t6 t9 t10 t11 t8 t12 hg)
  · cases hl
theorem is43a_0 (ws : List (List AV)) (ra : Int) (rb : Int) (rc : Int) (ps : List (List AV)) (t4 : Int) (t5 : Int) (t6 : List (List AV)) (t8 : Int) (t9 : Int) (t10 : Int) (t11 : Int) (h : i43a_0 ws ra rb rc ps t4 t5 t6 t8 t9 t10 t11 = true) : r43a ws ra rb rc ps t4 t5 t6 t8 t9 t10 t11 = some (.x0 (v43a_0_t8 ws ra rb rc ps t4 t5 t6 t8 t9 t10 t11) (v43a_0_t9 ws ra rb rc ps t4 t5 t6 t8 t9 t10 t11) (v43a_0_t10 ws ra rb rc ps t4 t5 t6 t8 t9 t10 t11) (v43a_0_t11 ws ra rb rc ps t4 t5 t6 t8 t9 t10 t11)) := by
  unfold i43a_0 at h
  unfold v43a_0_t8 v43a_0_t9 v43a_0_t10 v43a_0_t11
  generalize r43a ws ra rb rc ps t4 t5 t6 t8 t9 t10 t11 = r at h ⊢
  rcases r with _ | y
  · cases h
  · cases y <;> first | rfl | cases h
theorem round43a (ws : List (List AV)) (ra : Int) (rb : Int) (rc : Int) (ps : List (List AV)) (t4 : Int) (t5 : Int) (t6 : List (List AV)) (t8 : Int) (t9 : Int) (t10 : Int) (t11 : Int) : round Try.prog Sh (ro 43) L43 lp43a [false, true, false, true, true, true, true, true] [(1, none), (2, none), (4, none), (5, none), (6, none), (8, none), (9, none), (10, none), (11, none)] 0 (s43a ws ra rb rc ps t4 t5 t6 t8 t9 t10 t11) =
    cond (decide (t11 < (↑ws.length : Int))) (cond (i43aa_0 ws ra rb rc ps t4 t5 t6 t9 t10 t11 t8 0) (cond (inb t11 ws.length) (cond (inb (fI (ws.getD t11.toNat []) 0) ps.length) (some (.nrm, s43a ws ra rb rc ps t4 t5 t6 (v43aa_0_t8 ws ra rb rc ps t4 t5 t6 t9 t10 t11 t8 0) (IntKind.i64.wrap (t9 - fI (ps.getD (fI (ws.getD t11.toNat []) 0).toNat []) 1)) (fI (ps.getD (fI (ws.getD t11.toNat []) 0).toNat []) 3) (IntKind.i64.wrap (t11 + 1)))) (none)) (none)) (none)) (some (.ext 0, o43a_0 ws ra rb rc ps t4 t5 t6 t8 t9 t10 t11)) := by kernel_rfl
theorem rnd43a (ws : List (List AV)) (ra : Int) (rb : Int) (rc : Int) (ps : List (List AV)) (t4 : Int) (t5 : Int) (t6 : List (List AV)) (x : S43a) : round Try.prog Sh (ro 43) L43 lp43a [false, true, false, true, true, true, true, true] [(1, none), (2, none), (4, none), (5, none), (6, none), (8, none), (9, none), (10, none), (11, none)] 0 ((fun x => s43a ws ra rb rc ps t4 t5 t6 x.t8 x.t9 x.t10 x.t11) x) = toR (fun x => s43a ws ra rb rc ps t4 t5 t6 x.t8 x.t9 x.t10 x.t11) (ou43a ws ra rb rc ps t4 t5 t6) (stp43a ws ra rb rc ps t4 t5 t6 x.t8 x.t9 x.t10 x.t11) := by
  refine (round43a _ _ _ _ _ _ _ _ _ _ _ _ ).trans ?_
  unfold stp43a
  simp only [toR_cond]
  rfl
theorem lok43a {st : St} {outs : List (Bool × Ex × St)} {e : Ex} {s : St} (hl : l43a st = some outs) (hch : Chosen outs e s) :
    ∃ keep nb, 0 ≤ nb ∧ LB Try.prog Sh (ro 43) L43 lp43a [false, true, false, true, true, true, true, true] keep nb st e s := by
  unfold l43a at hl
  split at hl
  · rename_i ws ra rb rc ps t4 t5 t6 t8 t9 t10 t11 hno
    cases hl
    have hno := normW_norm hno
    refine ⟨_, _, ?_, .enter hno ?_⟩
    · decide
    have main := fun y h => LB_run (x := (⟨t8, t9, t10, t11⟩ : S43a)) (y := y) (nb := 0) (fun y => by cases y <;> simp [ou43a]) (rnd43a ws ra rb rc ps t4 t5 t6) h
    obtain ⟨x, hx, hg, rfl, rfl⟩ := chosen_any hch
    simp only [List.mem_cons, List.not_mem_nil, or_false] at hx
    subst hx
    exact main _ (is43a_0 ws ra rb rc ps t4 t5 t6 t8 t9 t10 t11 hg)
  · cases hl
theorem L43_ok (q : Pl) (c : Code) (hq : locate c43 q.reverse = some (.loop c)) (st : St) (outs : List (Bool × Ex × St)) (e : Ex) (s : St) (hl : L43 q st = some outs) (hch : Chosen outs e s) :
    ∃ keep nb, 0 ≤ nb ∧ LB Try.prog Sh (ro 43) L43 c q keep nb st e s := by
  unfold L43 at hl
  split at hl
  · have : locate c43 ([false, true, false, false, false, true, false, false, true, false, true, true, true, true, true] : Pl).reverse = some (.loop lp43aa) := by kernel_rfl
    rw [this] at hq
    cases hq
    exact lok43aa hl hch
  · have : locate c43 ([false, true, false, true, true, true, true, true] : Pl).reverse = some (.loop lp43a) := by kernel_rfl
    rw [this] at hq
    cases hq
    exact lok43a hl hch
  · cases hl
theorem lok43 : LOK Try.prog Sh (ro 43) L43 0 false c43 [] :=
  lok_lo L43_ok c43 [] false (locate_nil _) (by kernel_rfl)
noncomputable def t43 (ra rb rc : Int) (ps : List (List AV)) (ws : List (List AV)) : Tr ((Int) × (Int)) :=
  .cn (g67 ra rb rc ps) (.cn (w67_1 ra rb rc ps == 0) (.cn (g65 ra rb rc ps ws) (.cn (!w65_0 ra rb rc ps ws) (.lf (0, 8)) (.cn (w67_1 ra rb rc ps != 0) (.lf (0, w67_1 ra rb rc ps)) (.cn (i43a_0 ws ra rb rc ps 0 0 (w67_0 ra rb rc ps) 0 ra rb 0) (.lf (v43a_0_t8 ws ra rb rc ps 0 0 (w67_0 ra rb rc ps) 0 ra rb 0, 0)) (.nn)))) (.nn)) (.cn (w67_1 ra rb rc ps != 0) (.lf (0, w67_1 ra rb rc ps)) (.cn (i43a_0 ws ra rb rc ps 0 0 (w67_0 ra rb rc ps) 0 ra rb 0) (.lf (v43a_0_t8 ws ra rb rc ps 0 0 (w67_0 ra rb rc ps) 0 ra rb 0, 0)) (.nn)))) (.nn)
noncomputable def g43 (ra rb rc : Int) (ps : List (List AV)) (ws : List (List AV)) : Bool := (t43 ra rb rc ps ws).g
noncomputable def w43_0 (ra rb rc : Int) (ps : List (List AV)) (ws : List (List AV)) : Int := (t43 ra rb rc ps ws).val.1
noncomputable def w43_1 (ra rb rc : Int) (ps : List (List AV)) (ws : List (List AV)) : Int := (t43 ra rb rc ps ws).val.2
theorem eq43 (ra rb rc : Int) (ps : List (List AV)) (ws : List (List AV)) : evF Try.prog Sh (ro 43) L43 Try.f43 [.agg [.i .i64 ra, .i .i64 rb, .i .i64 rc, .rs 31 ps], .rs 3 ws] = (t43 ra rb rc ps ws).opt (fun (x : (Int) × (Int)) => (.tup [.i .i64 x.1, .i .i64 x.2] : AV)) := by kernel_rfl
theorem con43 (ra rb rc : Int) (ps : List (List AV)) (ws : List (List AV)) (h : g43 ra rb rc ps ws = true) : Con Try.prog 43 [.agg [.i .i64 ra, .i .i64 rb, .i .i64 rc, .rs 31 ps], .rs 3 ws] [] (.tup [.i .i64 (w43_0 ra rb rc ps ws), .i .i64 (w43_1 ra rb rc ps ws)]) [] :=
  con_of Sh_ok mixed Try.func43 (c := c43) rfl (names 43 _ Try.func43) lok43 ((eq43 ra rb rc ps ws).trans (Tr.sound _ _ h))
noncomputable def e43 (args : List AV) (rows : List Blk) : Option (Bool × AV × List Blk) := match args, rows with
  | [.agg [.i .i64 ra, .i .i64 rb, .i .i64 rc, .rs 31 ps], .rs 3 ws], [] => some (g43 ra rb rc ps ws, .tup [.i .i64 (w43_0 ra rb rc ps ws), .i .i64 (w43_1 ra rb rc ps ws)], [])
  | _, _ => none
theorem e43_ok (args : List AV) (rows : List Blk) (pre : Bool) (v : AV) (rows' : List Blk) (h : e43 args rows = some (pre, v, rows')) (hp : pre = true) : Con Try.prog 43 args rows v rows' := by
  unfold e43 at h
  split at h
  · cases h; exact con43 _ _ _ _ _ hp
  · cases h
-- SPEC 43
end Go.Proofs.Ytgifjphinkbcaaa

set_option maxRecDepth 100000
set_option linter.unusedVariables false
namespace Go.Proofs.Ytgifjphinkbcaaa
open Go Go.Ev
/-! ### Rank -/
/-- The number of a row. -/
def rankL (ps : List (List AV)) (c : Nat) : Nat → Nat → List Int → Int
  | _, _, [] => 0
  | n, h, k :: ks => sm ps c n h k.toNat + rankL ps c (n - wd ps k.toNat) (rt ps k.toNat) ks
theorem fitsL_cons {ps : List (List AV)} {c n h : Nat} {k : Int} {ks : List Int} (hps : okPs ps) (h1 : fitsL ps (c : Int) (n : Int) (h : Int) (k :: ks) = true) :
    ∃ q : Nat, k = (q : Int) ∧ q < ps.length ∧ lf ps q = h ∧ wd ps q ≤ n ∧ 0 < n ∧ fitsL ps (c : Int) ((n - wd ps q : Nat) : Int) (rt ps q : Int) ks = true := by
  have h1 : (isK ps k && (fI (pk ps k) 2 == (h : Int) && decide (fI (pk ps k) 1 ≤ (n : Int)) && fitsL ps (c : Int) ((n : Int) - fI (pk ps k) 1) (fI (pk ps k) 3) ks)) = true := h1
  rw [Bool.and_eq_true, Bool.and_eq_true, Bool.and_eq_true, beq_iff_eq, decide_eq_true_eq] at h1
  obtain ⟨h2, ⟨h3, h4⟩, h5⟩ := h1
  obtain ⟨q, rfl, hq⟩ := isK_nat h2
  obtain ⟨p1, p2, p3, p4, p5, p6, p7⟩ := pc_nat hps hq
  have e : pk ps (q : Int) = ps.getD q [] := rfl
  rw [e] at h3 h4 h5
  rw [p1] at h4 h5
  rw [p2] at h3
  rw [p3] at h5
  refine ⟨q, rfl, hq, by omega, by omega, by omega, ?_⟩
  have : ((n - wd ps q : Nat) : Int) = (n : Int) - (wd ps q : Int) := by omega
  rw [this]
  exact h5
theorem fitsL_mk {ps : List (List AV)} {c n h q : Nat} {ks : List Int} (hps : okPs ps) (hq : q < ps.length) (h1 : lf ps q = h) (h2 : wd ps q ≤ n) (h3 : fitsL ps (c : Int) ((n - wd ps q : Nat) : Int) (rt ps q : Int) ks = true) : fitsL ps (c : Int) (n : Int) (h : Int) ((q : Int) :: ks) = true := by
  show (isK ps (q : Int) && (fI (pk ps (q : Int)) 2 == (h : Int) && decide (fI (pk ps (q : Int)) 1 ≤ (n : Int)) && fitsL ps (c : Int) ((n : Int) - fI (pk ps (q : Int)) 1) (fI (pk ps (q : Int)) 3) ks)) = true
  obtain ⟨p1, p2, p3, p4, p5, p6, p7⟩ := pc_nat hps hq
  have e : pk ps (q : Int) = ps.getD q [] := rfl
  rw [e, p1, p2, p3, Bool.and_eq_true, Bool.and_eq_true, Bool.and_eq_true, beq_iff_eq, decide_eq_true_eq]
  have : ((n - wd ps q : Nat) : Int) = (n : Int) - (wd ps q : Int) := by omega
  rw [this] at h3
  refine ⟨?_, ⟨by omega, by omega⟩, h3⟩
  unfold isK
  rw [Bool.and_eq_true, decide_eq_true_eq, decide_eq_true_eq]
  omega
theorem rankL_lt {ps : List (List AV)} {c : Nat} (hps : okPs ps) : ∀ {ks : List Int} {n h : Nat}, cnt ps c n h ≤ 1000000000000000 → fitsL ps (c : Int) (n : Int) (h : Int) ks = true → 0 ≤ rankL ps c n h ks ∧ rankL ps c n h ks < cnt ps c n h
  | [], n, h, hs, hf => by
    have hf : ((n : Int) == 0 && (h : Int) == (c : Int)) = true := hf
    rw [Bool.and_eq_true, beq_iff_eq, beq_iff_eq] at hf
    obtain rfl : n = 0 := by omega
    obtain rfl : h = c := by omega
    rw [cnt_zero, if_pos rfl]
    show (0 : Int) ≤ 0 ∧ (0 : Int) < 1
    omega
  | k :: ks, n, h, hs, hf => by
    obtain ⟨q, rfl, hq, h1, h2, h3, h4⟩ := fitsL_cons hps hf
    have hsu := sm_succ (c := c) (h := h) hps h3 hq hs
    rw [if_pos ⟨h1, h2⟩] at hsu
    have hl := sm_le (c := c) (h := h) hps h3 (q + 1)
    have hl' := sm_le (c := c) (h := h) hps h3 q
    have := rankL_lt (c := c) hps (n := n - wd ps q) (h := rt ps q) (by omega) h4
    show 0 ≤ sm ps c n h q + rankL ps c (n - wd ps q) (rt ps q) ks ∧ sm ps c n h q + rankL ps c (n - wd ps q) (rt ps q) ks < _
    omega
theorem take_getD {ps : List (List AV)} {q j : Nat} (h : j < q) : (ps.take q).getD j [] = ps.getD j [] := by
  rw [List.getD_eq_getElem?_getD, List.getD_eq_getElem?_getD, List.getElem?_take, if_pos h]
theorem inner42 {ra rb rc t4 t5 t11 t31 t32 : Int} {ps ws : List (List AV)} {c N n h q : Nat} {s : Int} (hps : okPs ps) (hN : N ≤ 2000) (hn : 0 < n) (hnN : n ≤ N) (hq : q < ps.length) (hs0 : 0 ≤ s) (hs : s + cnt ps c n h ≤ 1000000000000000) :
    ∃ a, r42aa ra rb rc ps t4 t5 (tab (N + 1) (tabs ps c N)) t11 ws t31 t32 (ps.take q) ((ps.take q).length : Int) (n : Int) (h : Int) s 0 = some (.x0 (s + sm ps c n h q) a) := by
  have hl := hps.1
  have hql : (ps.take q).length = q := by rw [List.length_take]; omega
  have hco0 := cnt_ok ps c n h
  have run : ∃ y, r42aa ra rb rc ps t4 t5 (tab (N + 1) (tabs ps c N)) t11 ws t31 t32 (ps.take q) ((ps.take q).length : Int) (n : Int) (h : Int) s 0 = some y ∧ ∃ a, y = .x0 (s + sm ps c n h q) a := by
    unfold r42aa
    refine run_for (S := Int) q (fun k s => (⟨s, (k : Int)⟩ : S42aa)) (fun k u => u = s + sm ps c n h k) (fun _ _ (y : T42aa) => ∃ a, y = .x0 (s + sm ps c n h q) a) (fun k u hk hi => ?_) (fun u hi => ?_) 0 s (Nat.zero_le _) (by rw [sm_zero]; omega)
    · subst hi
      left
      have hkl : k < ps.length := by omega
      obtain ⟨p1, p2, p3, p4, p5, p6, p7⟩ := pc_nat hps hkl
      have hsu := sm_succ (c := c) (h := h) hps hn hkl (by omega)
      have hsl := sm_le (c := c) (h := h) hps hn k
      have hsl2 := sm_le (c := c) (h := h) hps hn (k + 1)
      refine ⟨s + sm ps c n h (k + 1), ?_, rfl, fun y hy => hy⟩
      show stp42aa ra rb rc ps t4 t5 (tab (N + 1) (tabs ps c N)) t11 ws t31 t32 (ps.take q) ((ps.take q).length : Int) (n : Int) (h : Int) (s + sm ps c n h k) (k : Int) = _
      unfold stp42aa
      rw [Int.toNat_natCast, hql]
      simp only [lt_true hk, inb_true hk, cond_true, wrap_succ (show k < 9223372036854775807 by omega), g71_true, w71_all, take_getD hk, p1, p2, p3]
      by_cases hc : lf ps k = h ∧ wd ps k ≤ n
      · rw [if_pos hc] at hsu
        have e1 : ((lf ps k : Int) == (h : Int) && decide ((wd ps k : Int) ≤ (n : Int))) = true := by
          rw [Bool.and_eq_true, decide_eq_true_eq, beq_iff_eq]
          omega
        have e2 : IntKind.i64.wrap ((n : Int) - (wd ps k : Int)) = ((n - wd ps k : Nat) : Int) := (wrap64 (by omega) (by omega)).trans (by omega)
        obtain ⟨t1, t2⟩ := tab_cnt (ps := ps) (c := c) (N := N) (n := n - wd ps k) (h := rt ps k) (by omega) p7
        have hco := cnt_ok ps c (n - wd ps k) (rt ps k)
        simp only [e1, e2, t1, t2, cond_true]
        rw [wrap64 (by omega) (by omega), hsu, Int.add_assoc]
      · rw [if_neg hc] at hsu
        have e1 : ((lf ps k : Int) == (h : Int) && decide ((wd ps k : Int) ≤ (n : Int))) = false := by
          rw [Bool.eq_false_iff]
          intro h'
          rw [Bool.and_eq_true, decide_eq_true_eq, beq_iff_eq] at h'
          exact hc (by omega)
        rw [e1, hsu, Int.add_zero]
        rfl
    · subst hi
      refine ⟨_, ?_, (q : Int), rfl⟩
      show stp42aa ra rb rc ps t4 t5 (tab (N + 1) (tabs ps c N)) t11 ws t31 t32 (ps.take q) ((ps.take q).length : Int) (n : Int) (h : Int) (s + sm ps c n h q) (q : Int) = _
      unfold stp42aa
      rw [hql, lt_false]; rfl
  obtain ⟨y, h1, a, h2⟩ := run
  exact ⟨a, by rw [h1, h2]⟩
theorem inner43 {ra rb rc t4 t5 : Int} {ps ws : List (List AV)} {c N n h q j : Nat} {s : Int} (hps : okPs ps) (hN : N ≤ 2000) (hn : 0 < n) (hnN : n ≤ N) (hq : q < ps.length) (hj : j < ws.length) (hw : fI (ws.getD j []) 0 = (q : Int)) (hs0 : 0 ≤ s) (hs : s + cnt ps c n h ≤ 1000000000000000) :
    ∃ a, r43aa ws ra rb rc ps t4 t5 (tab (N + 1) (tabs ps c N)) (n : Int) (h : Int) (j : Int) s 0 = some (.x0 (s + sm ps c n h q) a) := by
  have hl := hps.1
  have hco0 := cnt_ok ps c n h
  have run : ∃ y, r43aa ws ra rb rc ps t4 t5 (tab (N + 1) (tabs ps c N)) (n : Int) (h : Int) (j : Int) s 0 = some y ∧ ∃ a, y = .x0 (s + sm ps c n h q) a := by
    unfold r43aa
    refine run_for (S := Int) q (fun k s => (⟨s, (k : Int)⟩ : S43aa)) (fun k u => u = s + sm ps c n h k) (fun _ _ (y : T43aa) => ∃ a, y = .x0 (s + sm ps c n h q) a) (fun k u hk hi => ?_) (fun u hi => ?_) 0 s (Nat.zero_le _) (by rw [sm_zero]; omega)
    · subst hi
      left
      have hkl : k < ps.length := by omega
      obtain ⟨p1, p2, p3, p4, p5, p6, p7⟩ := pc_nat hps hkl
      have hsu := sm_succ (c := c) (h := h) hps hn hkl (by omega)
      have hsl := sm_le (c := c) (h := h) hps hn k
      have hsl2 := sm_le (c := c) (h := h) hps hn (k + 1)
      refine ⟨s + sm ps c n h (k + 1), ?_, rfl, fun y hy => hy⟩
      show stp43aa ws ra rb rc ps t4 t5 (tab (N + 1) (tabs ps c N)) (n : Int) (h : Int) (j : Int) (s + sm ps c n h k) (k : Int) = _
      unfold stp43aa
      rw [Int.toNat_natCast, Int.toNat_natCast, hw]
      simp only [lt_true hk, inb_true hj, inb_true hkl, cond_true, wrap_succ (show k < 9223372036854775807 by omega), p1, p2, p3]
      by_cases hA : lf ps k = h
      · have e1 : ((lf ps k : Int) == (h : Int)) = true := by simp [hA]
        rw [e1]
        by_cases hW : wd ps k ≤ n
        · rw [if_pos ⟨hA, hW⟩] at hsu
          have hd : decide ((wd ps k : Int) ≤ (n : Int)) = true := decide_eq_true (by omega)
          have e2 : IntKind.i64.wrap ((n : Int) - (wd ps k : Int)) = ((n - wd ps k : Nat) : Int) := (wrap64 (by omega) (by omega)).trans (by omega)
          have cc := cts91 p7
          simp only [Int.toNat_natCast, Nat.zero_add, Nat.mul_one] at cc
          have hco := cnt_ok ps c (n - wd ps k) (rt ps k)
          rw [hd, e2]
          simp only [tab_len, inb_true (show n - wd ps k < N + 1 by omega), inb_true p7, Int.toNat_natCast, Nat.zero_add, Nat.mul_one, cc, cond_true, tab_toI (ps := ps) (c := c) (show n - wd ps k ≤ N by omega) p7]
          rw [wrap64 (by omega) (by omega), hsu, Int.add_assoc]
        · rw [if_neg (fun hc => hW hc.2)] at hsu
          have hd : decide ((wd ps k : Int) ≤ (n : Int)) = false := decide_eq_false (by omega)
          rw [hd, hsu, Int.add_zero]
          rfl
      · rw [if_neg (fun hc => hA hc.1)] at hsu
        have e1 : ((lf ps k : Int) == (h : Int)) = false := by
          rw [beq_eq_false_iff_ne]
          omega
        rw [e1, hsu, Int.add_zero]
        rfl
    · subst hi
      refine ⟨_, ?_, (q : Int), rfl⟩
      show stp43aa ws ra rb rc ps t4 t5 (tab (N + 1) (tabs ps c N)) (n : Int) (h : Int) (j : Int) (s + sm ps c n h q) (q : Int) = _
      unfold stp43aa
      rw [Int.toNat_natCast, hw, inb_true hj, lt_false]; rfl
  obtain ⟨y, h1, a, h2⟩ := run
  exact ⟨a, by rw [h1, h2]⟩
theorem loop42 {ra rb rc t4 t5 : Int} {ps ws : List (List AV)} {c N b : Nat} (hps : okPs ps) (hN : N ≤ 2000) (hw : ws.length < 9223372036854775807) (hs : cnt ps c N b ≤ 1000000000000000) (hf : fitsL ps (c : Int) (N : Int) (b : Int) (nums ws) = true) :
    ∃ a1 a2 a3, r42a ra rb rc ps t4 t5 (tab (N + 1) (tabs ps c N)) ws (ws.length : Int) 0 0 (N : Int) (b : Int) = some (.x0 (rankL ps c N b (nums ws)) a1 a2 a3) := by
  have hl := hps.1
  have run : ∃ y, r42a ra rb rc ps t4 t5 (tab (N + 1) (tabs ps c N)) ws (ws.length : Int) 0 0 (N : Int) (b : Int) = some y ∧ ∃ a1 a2 a3, y = .x0 (0 + rankL ps c N b ((nums ws).drop 0)) a1 a2 a3 := by
    unfold r42a
    refine run_for (S := Int × Nat × Nat) ws.length (fun k s => (⟨s.1, (k : Int), (s.2.1 : Int), (s.2.2 : Int)⟩ : S42a)) (fun k s => s.2.1 ≤ N ∧ 0 ≤ s.1 ∧ s.1 + cnt ps c s.2.1 s.2.2 ≤ 1000000000000000 ∧ fitsL ps (c : Int) (s.2.1 : Int) (s.2.2 : Int) ((nums ws).drop k) = true)
      (fun k s (y : T42a) => ∃ a1 a2 a3, y = .x0 (s.1 + rankL ps c s.2.1 s.2.2 ((nums ws).drop k)) a1 a2 a3) (fun k s hk hi => ?_) (fun s hi => ?_) 0 (0, N, b) (Nat.zero_le _) ⟨Nat.le_refl _, Int.le_refl _, by show 0 + cnt ps c N b ≤ _; omega, by rw [List.drop_zero]; exact hf⟩
    · obtain ⟨s, n, h⟩ := s
      obtain ⟨i1, i2, i3, i4⟩ := hi
      simp only at i1 i2 i3 i4
      left
      rw [nums_drop hk] at i4 ⊢
      obtain ⟨q, hq, hql, h1, h2, h3, h4⟩ := fitsL_cons hps i4
      obtain ⟨p1, p2, p3, p4, p5, p6, p7⟩ := pc_nat hps hql
      have hco := cnt_ok ps c n h
      have hsu := sm_succ (c := c) (h := h) hps h3 hql (by omega)
      rw [if_pos ⟨h1, h2⟩] at hsu
      have hsl := sm_le (c := c) (h := h) hps h3 (q + 1)
      have hsl' := sm_le (c := c) (h := h) hps h3 q
      obtain ⟨a, ha⟩ := inner42 (ra := ra) (rb := rb) (rc := rc) (t4 := t4) (t5 := t5) (t11 := (q : Int)) (t31 := (ws.length : Int)) (t32 := (k : Int)) (ws := ws) hps hN h3 i1 hql i2 i3
      refine ⟨(s + sm ps c n h q, n - wd ps q, rt ps q), ?_, ⟨by show n - wd ps q ≤ N; omega, by show 0 ≤ s + sm ps c n h q; omega, by show s + sm ps c n h q + cnt ps c (n - wd ps q) (rt ps q) ≤ _; omega, h4⟩, ?_⟩
      · show stp42a ra rb rc ps t4 t5 (tab (N + 1) (tabs ps c N)) ws (ws.length : Int) s (k : Int) (n : Int) (h : Int) = _
        unfold stp42a
        rw [Int.toNat_natCast, hq]
        have d1 : (decide (0 ≤ (q : Int)) && decide ((q : Int) ≤ (ps.length : Int))) = true := by
          rw [Bool.and_eq_true, decide_eq_true_eq, decide_eq_true_eq]
          omega
        have e2 : IntKind.i64.wrap ((n : Int) - (wd ps q : Int)) = ((n - wd ps q : Nat) : Int) := (wrap64 (by omega) (by omega)).trans (by omega)
        unfold i42aa_0 v42aa_0_t8
        simp only [lt_true hk, inb_true hk, inb_true hql, d1, cond_true, wrap_succ (show k < 9223372036854775807 by omega), g71_true, w71_all, List.drop_zero, Int.toNat_natCast, p1, p2, p3, e2, ha]
      · rintro y ⟨a1, a2, a3, rfl⟩
        refine ⟨a1, a2, a3, ?_⟩
        show T42a.x0 (s + sm ps c n h q + rankL ps c (n - wd ps q) (rt ps q) ((nums ws).drop (k + 1))) a1 a2 a3 = _
        rw [hq]
        show _ = T42a.x0 (s + (sm ps c n h q + rankL ps c (n - wd ps q) (rt ps q) ((nums ws).drop (k + 1)))) a1 a2 a3
        rw [Int.add_assoc]
    · obtain ⟨s, n, h⟩ := s
      refine ⟨.x0 s (ws.length : Int) (n : Int) (h : Int), ?_, (ws.length : Int), (n : Int), (h : Int), ?_⟩
      · show stp42a ra rb rc ps t4 t5 (tab (N + 1) (tabs ps c N)) ws (ws.length : Int) s (ws.length : Int) (n : Int) (h : Int) = _
        unfold stp42a
        rw [lt_false]; rfl
      · rw [List.drop_of_length_le (by rw [nums_len]; exact Nat.le_refl _)]
        show T42a.x0 s _ _ _ = T42a.x0 (s + 0) _ _ _
        rw [Int.add_zero]
  obtain ⟨y, h1, a1, a2, a3, h2⟩ := run
  exact ⟨a1, a2, a3, by rw [h1, h2, List.drop_zero, Int.zero_add]⟩
theorem loop43 {ra rb rc t4 t5 : Int} {ps ws : List (List AV)} {c N b : Nat} (hps : okPs ps) (hN : N ≤ 2000) (hw : ws.length < 9223372036854775807) (hs : cnt ps c N b ≤ 1000000000000000) (hf : fitsL ps (c : Int) (N : Int) (b : Int) (nums ws) = true) :
    ∃ a1 a2 a3, r43a ws ra rb rc ps t4 t5 (tab (N + 1) (tabs ps c N)) 0 (N : Int) (b : Int) 0 = some (.x0 (rankL ps c N b (nums ws)) a1 a2 a3) := by
  have hl := hps.1
  have run : ∃ y, r43a ws ra rb rc ps t4 t5 (tab (N + 1) (tabs ps c N)) 0 (N : Int) (b : Int) 0 = some y ∧ ∃ a1 a2 a3, y = .x0 (0 + rankL ps c N b ((nums ws).drop 0)) a1 a2 a3 := by
    unfold r43a
    refine run_for (S := Int × Nat × Nat) ws.length (fun k s => (⟨s.1, (s.2.1 : Int), (s.2.2 : Int), (k : Int)⟩ : S43a)) (fun k s => s.2.1 ≤ N ∧ 0 ≤ s.1 ∧ s.1 + cnt ps c s.2.1 s.2.2 ≤ 1000000000000000 ∧ fitsL ps (c : Int) (s.2.1 : Int) (s.2.2 : Int) ((nums ws).drop k) = true)
      (fun k s (y : T43a) => ∃ a1 a2 a3, y = .x0 (s.1 + rankL ps c s.2.1 s.2.2 ((nums ws).drop k)) a1 a2 a3) (fun k s hk hi => ?_) (fun s hi => ?_) 0 (0, N, b) (Nat.zero_le _) ⟨Nat.le_refl _, Int.le_refl _, by show 0 + cnt ps c N b ≤ _; omega, by rw [List.drop_zero]; exact hf⟩
    · obtain ⟨s, n, h⟩ := s
      obtain ⟨i1, i2, i3, i4⟩ := hi
      simp only at i1 i2 i3 i4
      left
      rw [nums_drop hk] at i4 ⊢
      obtain ⟨q, hq, hql, h1, h2, h3, h4⟩ := fitsL_cons hps i4
      obtain ⟨p1, p2, p3, p4, p5, p6, p7⟩ := pc_nat hps hql
      have hco := cnt_ok ps c n h
      have hsu := sm_succ (c := c) (h := h) hps h3 hql (by omega)
      rw [if_pos ⟨h1, h2⟩] at hsu
      have hsl := sm_le (c := c) (h := h) hps h3 (q + 1)
      have hsl' := sm_le (c := c) (h := h) hps h3 q
      obtain ⟨a, ha⟩ := inner43 (ra := ra) (rb := rb) (rc := rc) (t4 := t4) (t5 := t5) (ws := ws) hps hN h3 i1 hql hk hq i2 i3
      refine ⟨(s + sm ps c n h q, n - wd ps q, rt ps q), ?_, ⟨by show n - wd ps q ≤ N; omega, by show 0 ≤ s + sm ps c n h q; omega, by show s + sm ps c n h q + cnt ps c (n - wd ps q) (rt ps q) ≤ _; omega, h4⟩, ?_⟩
      · show stp43a ws ra rb rc ps t4 t5 (tab (N + 1) (tabs ps c N)) s (n : Int) (h : Int) (k : Int) = _
        unfold stp43a
        rw [Int.toNat_natCast, hq]
        have e2 : IntKind.i64.wrap ((n : Int) - (wd ps q : Int)) = ((n - wd ps q : Nat) : Int) := (wrap64 (by omega) (by omega)).trans (by omega)
        unfold i43aa_0 v43aa_0_t8
        simp only [lt_true hk, inb_true hk, inb_true hql, cond_true, wrap_succ (show k < 9223372036854775807 by omega), Int.toNat_natCast, p1, p3, e2, ha]
      · rintro y ⟨a1, a2, a3, rfl⟩
        refine ⟨a1, a2, a3, ?_⟩
        show T43a.x0 (s + sm ps c n h q + rankL ps c (n - wd ps q) (rt ps q) ((nums ws).drop (k + 1))) a1 a2 a3 = _
        rw [hq]
        show _ = T43a.x0 (s + (sm ps c n h q + rankL ps c (n - wd ps q) (rt ps q) ((nums ws).drop (k + 1)))) a1 a2 a3
        rw [Int.add_assoc]
    · obtain ⟨s, n, h⟩ := s
      refine ⟨.x0 s (n : Int) (h : Int) (ws.length : Int), ?_, (n : Int), (h : Int), (ws.length : Int), ?_⟩
      · show stp43a ws ra rb rc ps t4 t5 (tab (N + 1) (tabs ps c N)) s (n : Int) (h : Int) (ws.length : Int) = _
        unfold stp43a
        rw [lt_false]; rfl
      · rw [List.drop_of_length_le (by rw [nums_len]; exact Nat.le_refl _)]
        show T43a.x0 s _ _ _ = T43a.x0 (s + 0) _ _ _
        rw [Int.add_zero]
  obtain ⟨y, h1, a1, a2, a3, h2⟩ := run
  exact ⟨a1, a2, a3, by rw [h1, h2, List.drop_zero, Int.zero_add]⟩
theorem rank_err {ra rb rc : Int} {ps ws : List (List AV)} (h0 : w50_1 ra rb rc ps ≠ 0) (hg : g50 ra rb rc ps = true) (hg' : g67 ra rb rc ps = true) (he : w67_1 ra rb rc ps = w50_1 ra rb rc ps) :
    (g42 ra rb rc ps ws = true ∧ w42_1 ra rb rc ps ws = w50_1 ra rb rc ps ∧ w42_0 ra rb rc ps ws = 0) ∧ g43 ra rb rc ps ws = true ∧ w43_1 ra rb rc ps ws = w50_1 ra rb rc ps ∧ w43_0 ra rb rc ps ws = 0 := by
  have hz : (w50_1 ra rb rc ps != 0) = true := by simpa using h0
  have hz2 : (w50_1 ra rb rc ps == 0) = false := by simpa using h0
  unfold g42 w42_1 w42_0 t42 g43 w43_1 w43_0 t43
  rw [hg, hg', he, hz, hz2]
  exact ⟨⟨rfl, rfl, rfl⟩, rfl, rfl, rfl⟩
theorem rank_val {ps ws : List (List AV)} {n b c : Nat} (hF : Fine (n : Int) (b : Int) (c : Int) ps) (hn : n ≤ 2000) (hb : b < 10) (hc : c < 10) (hw : w29_0 (n : Int) (b : Int) (c : Int) ps = 0) (hs : cnt ps c n b ≤ 1000000000000000) (hws : ws.length < 9223372036854775807) :
    (g42 (n : Int) (b : Int) (c : Int) ps ws = true ∧ w42_1 (n : Int) (b : Int) (c : Int) ps ws = (if fitsL ps (c : Int) (n : Int) (b : Int) (nums ws) then 0 else 8) ∧ w42_0 (n : Int) (b : Int) (c : Int) ps ws = (if fitsL ps (c : Int) (n : Int) (b : Int) (nums ws) then rankL ps c n b (nums ws) else 0)) ∧
    g43 (n : Int) (b : Int) (c : Int) ps ws = true ∧ w43_1 (n : Int) (b : Int) (c : Int) ps ws = (if fitsL ps (c : Int) (n : Int) (b : Int) (nums ws) then 0 else 8) ∧ w43_0 (n : Int) (b : Int) (c : Int) ps ws = (if fitsL ps (c : Int) (n : Int) (b : Int) (nums ws) then rankL ps c n b (nums ws) else 0) := by
  have hps := hF.ps
  obtain ⟨g1, g2, g3⟩ := counted_val hps hn hb hc hw
  rcases g3 with ⟨h1, _⟩ | ⟨_, h1, h2, h3, h4⟩
  · omega
  obtain ⟨f1, f2⟩ := fits_val hF hws
  obtain ⟨r1, r2⟩ := rfits_val hF hws
  have p0 : w52_0 (n : Int) (b : Int) (c : Int) ps = (n : Int) := rfl
  have p1 : w52_1 (n : Int) (b : Int) (c : Int) ps = (b : Int) := rfl
  have z1 : ((0 : Int) != 0) = false := by decide
  have z2 : ((0 : Int) == 0) = true := by decide
  unfold g42 w42_1 w42_0 t42 g43 w43_1 w43_0 t43
  rw [g1, g2, h1, h2, h3, h4, z1, z2, p0, p1, f1, f2, r1, r2]
  cases hf : fitsL ps (c : Int) (n : Int) (b : Int) (nums ws) with
  | false => exact ⟨⟨rfl, rfl, rfl⟩, rfl, rfl, rfl⟩
  | true =>
    obtain ⟨a1, a2, a3, ha⟩ := loop42 (ra := (n : Int)) (rb := (b : Int)) (rc := (c : Int)) (t4 := 0) (t5 := 0) hps hn hws hs hf
    obtain ⟨b1, b2, b3, hb'⟩ := loop43 (ra := (n : Int)) (rb := (b : Int)) (rc := (c : Int)) (t4 := 0) (t5 := 0) hps hn hws hs hf
    unfold i42a_0 i43a_0 v42a_0_t8 v43a_0_t8
    rw [ha, hb']
    exact ⟨⟨rfl, rfl, rfl⟩, rfl, rfl, rfl⟩
end Go.Proofs.Ytgifjphinkbcaaa

set_option maxRecDepth 100000
set_option linter.unusedVariables false
namespace Go.Proofs.Ytgifjphinkbcaaa
open Go Go.Ev
theorem WT_int {a : AV} {k : IntKind} (h : WT Try.prog (.int k) a) : ∃ n, a = .i k n ∧ k.min ≤ n ∧ n ≤ k.max := by
  cases h with
  | int h1 h2 => exact ⟨_, rfl, h1, h2⟩
theorem WT_sl {a : AV} {e : TypeId} (h : WT Try.prog (.sl e) a) : ∃ es, a = .rs e es ∧ es.length ≤ 9223372036854775807 ∧ (∀ x, x ∈ es → x.length = (cts Try.prog e).length) ∧ (∀ x, x ∈ es → ∀ j, j < x.length → WT Try.prog ((cts Try.prog e).getD j .oth) (x.getD j .u)) := by
  cases h with
  | sl h1 h2 h3 => exact ⟨_, rfl, h1, h2, h3⟩
theorem ty_agg {a : AV} {t : TypeId} {c : List CT} (hA : Ev.isAgg Try.prog t = true) (hc : cts Try.prog t = c) (h : TyArg Try.prog t a) : ∃ bs, a = .agg bs ∧ WTs Try.prog c bs := by
  rcases h with ⟨_, as1, rfl, h⟩ | ⟨h, _⟩
  · exact ⟨as1, rfl, hc ▸ h⟩
  · rw [hA] at h; cases h
theorem ty_one {a : AV} {t : TypeId} {c : CT} (hA : Ev.isAgg Try.prog t = false) (hc : (cts Try.prog t).headD .oth = c) (h : TyArg Try.prog t a) : WT Try.prog c a := by
  rcases h with ⟨h, _⟩ | ⟨_, h⟩
  · rw [hA] at h; cases h
  · exact hc ▸ h
theorem WTs_cons {c : CT} {cs : List CT} {bs : List AV} (h : WTs Try.prog (c :: cs) bs) : ∃ a r, bs = a :: r ∧ WT Try.prog c a ∧ WTs Try.prog cs r := by
  obtain ⟨h1, h2⟩ := h
  cases bs with
  | nil => simp at h1
  | cons a r =>
    refine ⟨a, r, rfl, by simpa using h2 0 (by simp), by simpa using h1, fun j hj => ?_⟩
    simpa using h2 (j + 1) (by simpa using hj)
theorem WTs_nil {bs : List AV} (h : WTs Try.prog [] bs) : bs = [] := by simpa using h.1
theorem tyArgs_cons {t : TypeId} {ts : List TypeId} {bs : List AV} (h : TyArgs Try.prog (t :: ts) bs) : ∃ a r, bs = a :: r ∧ TyArg Try.prog t a ∧ TyArgs Try.prog ts r := by
  cases bs with
  | nil => cases h
  | cons a r => exact ⟨a, r, rfl, h.1, h.2⟩
theorem tyArgs_nil {bs : List AV} (h : TyArgs Try.prog [] bs) : bs = [] := by
  cases bs with
  | nil => rfl
  | cons a r => cases h
/-- A Ridge that is handed in. -/
theorem ridge_of {a : AV} (h : TyArg Try.prog 24 a) : ∃ ra rb rc ps, a = .agg [.i .i64 ra, .i .i64 rb, .i .i64 rc, .rs 31 ps] ∧ ps.length ≤ 9223372036854775807 ∧ (∀ x, x ∈ ps → x.length = (cts Try.prog 31).length) ∧ (∀ x, x ∈ ps → ∀ j, j < x.length → WT Try.prog ((cts Try.prog 31).getD j .oth) (x.getD j .u)) ∧
    (IntKind.i64.min ≤ ra ∧ ra ≤ IntKind.i64.max) ∧ (IntKind.i64.min ≤ rb ∧ rb ≤ IntKind.i64.max) ∧ (IntKind.i64.min ≤ rc ∧ rc ≤ IntKind.i64.max) := by
  obtain ⟨bs, rfl, hw⟩ := ty_agg (c := [.int .i64, .int .i64, .int .i64, .sl 31]) (by kernel_rfl) (by kernel_rfl) h
  obtain ⟨b0, q0, rfl, w0, hw⟩ := WTs_cons hw
  obtain ⟨b1, q1, rfl, w1, hw⟩ := WTs_cons hw
  obtain ⟨b2, q2, rfl, w2, hw⟩ := WTs_cons hw
  obtain ⟨b3, q3, rfl, w3, hw⟩ := WTs_cons hw
  obtain rfl := WTs_nil hw
  obtain ⟨ra, rfl, r1⟩ := WT_int w0
  obtain ⟨rb, rfl, r2⟩ := WT_int w1
  obtain ⟨rc, rfl, r3⟩ := WT_int w2
  obtain ⟨ps, rfl, r4, r5, r6⟩ := WT_sl w3
  exact ⟨ra, rb, rc, ps, rfl, r4, r5, r6, r1, r2, r3⟩
end Go.Proofs.Ytgifjphinkbcaaa

set_option maxRecDepth 100000
set_option linter.unusedVariables false
namespace Go.Proofs.Ytgifjphinkbcaaa
open Go Go.Ev
noncomputable def SC : Ev.Spec := insS 35 e35 (insS 34 e34 (insS 32 e32 (insS 30 e30 (insS 33 e33 (insS 29 e29 (insS 28 e28 (insS 19 e19 (insS 18 e18 (S0)))))))))
theorem SC_ok : SpecOK Try.prog SC := insS_ok e35_ok (insS_ok e34_ok (insS_ok e32_ok (insS_ok e30_ok (insS_ok e33_ok (insS_ok e29_ok (insS_ok e28_ok (insS_ok e19_ok (insS_ok e18_ok (S0_ok)))))))))
end Go.Proofs.Ytgifjphinkbcaaa

set_option maxRecDepth 100000
set_option maxHeartbeats 1000000
set_option linter.unusedVariables false
namespace Go.Proofs.Ytgifjphinkbcaaa
open Go Go.Ev

/-! ### RidgeChecks -/
noncomputable def c7 : Code := match Try.f7.body with | some c => c | _ => .skip
theorem lok7 : LOK Try.prog SC (ro 7) (fun _ _ => none) 0 false c7 [] :=
  lok_lo (fun _ _ _ _ _ _ _ h _ => by cases h) c7 [] false (locate_nil _) (by kernel_rfl)
noncomputable def t7 (ra rb rc : Int) (ps : List (List AV)) (ws : List (List AV)) : Tr ((Bool)) :=
  .cn (g18 ra rb rc ps) (.cn (w18_0 ra rb rc ps) (.lf (true)) (.cn (decide ((↑ws.length : Int) > 400)) (.lf (true)) (.cn (g30 ra rb rc ps ws) (.cn (g32 ra rb rc ps ws) (.cn (g29 ra rb rc ps) (.cn (g33 ra rb rc ps) (.cn (w29_0 ra rb rc ps != w33_0 ra rb rc ps) (.lf (false)) (.cn (!w30_0 ra rb rc ps ws == w32_0 ra rb rc ps ws) (.lf (false)) (.cn (w30_1 ra rb rc ps ws != w32_1 ra rb rc ps ws) (.lf (false)) (.cn (g34 ra rb rc ps ws) (.cn (g35 ra rb rc ps ws) (.cn (w34_1 ra rb rc ps ws == w35_1 ra rb rc ps ws) (.cn (g28 (w34_0 ra rb rc ps ws) (w35_0 ra rb rc ps ws)) (.cn (w28_0 (w34_0 ra rb rc ps ws) (w35_0 ra rb rc ps ws)) (.lf (true)) (.lf (false))) (.nn)) (.lf (false))) (.nn)) (.nn))))) (.nn)) (.nn)) (.nn)) (.nn)))) (.nn)
noncomputable def g7 (ra rb rc : Int) (ps : List (List AV)) (ws : List (List AV)) : Bool := (t7 ra rb rc ps ws).g
noncomputable def w7_0 (ra rb rc : Int) (ps : List (List AV)) (ws : List (List AV)) : Bool := (t7 ra rb rc ps ws).val
theorem eq7 (ra rb rc : Int) (ps : List (List AV)) (ws : List (List AV)) : evF Try.prog SC (ro 7) (fun _ _ => none) Try.f7 [.agg [.i .i64 ra, .i .i64 rb, .i .i64 rc, .rs 31 ps], .rs 3 ws] = (t7 ra rb rc ps ws).opt (fun (x : (Bool)) => (.b x : AV)) := by kernel_rfl
theorem con7 (ra rb rc : Int) (ps : List (List AV)) (ws : List (List AV)) (h : g7 ra rb rc ps ws = true) : Con Try.prog 7 [.agg [.i .i64 ra, .i .i64 rb, .i .i64 rc, .rs 31 ps], .rs 3 ws] [] (.b (w7_0 ra rb rc ps ws)) [] :=
  con_of SC_ok mixed Try.func7 (c := c7) rfl (names 7 _ Try.func7) lok7 ((eq7 ra rb rc ps ws).trans (Tr.sound _ _ h))
noncomputable def e7 (args : List AV) (rows : List Blk) : Option (Bool × AV × List Blk) := match args, rows with
  | [.agg [.i .i64 ra, .i .i64 rb, .i .i64 rc, .rs 31 ps], .rs 3 ws], [] => some (g7 ra rb rc ps ws, .b (w7_0 ra rb rc ps ws), [])
  | _, _ => none
theorem e7_ok (args : List AV) (rows : List Blk) (pre : Bool) (v : AV) (rows' : List Blk) (h : e7 args rows = some (pre, v, rows')) (hp : pre = true) : Con Try.prog 7 args rows v rows' := by
  unfold e7 at h
  split at h
  · cases h; exact con7 _ _ _ _ _ hp
  · cases h
-- SPEC 7
end Go.Proofs.Ytgifjphinkbcaaa

set_option maxRecDepth 100000
set_option linter.unusedVariables false
namespace Go.Proofs.Ytgifjphinkbcaaa
open Go Go.Ev
theorem checks_law (ra rb rc : Int) (ps ws : List (List AV)) : g7 ra rb rc ps ws = true ∧ w7_0 ra rb rc ps ws = true := by
  unfold g7 w7_0 t7
  rw [g18_true]
  cases w18_0 ra rb rc ps with
  | true => exact ⟨rfl, rfl⟩
  | false =>
  cases h : decide ((ws.length : Int) > 400) with
  | true => exact ⟨rfl, rfl⟩
  | false =>
    have hw : ws.length < 9223372036854775807 := by have := of_decide_eq_false h; omega
    obtain ⟨c1, c2, _⟩ := check_eq ra rb rc ps
    have e1 : (w29_0 ra rb rc ps != w29_0 ra rb rc ps) = false := by simp
    by_cases h0 : w29_0 ra rb rc ps = 0
    · have hF := fine_of h0
      obtain ⟨⟨a1, a2, a3⟩, a4, a5, a6⟩ := fitsE_val hF h0 hw
      obtain ⟨n1, n2, n3⟩ := needs_val hF h0 hw
      obtain ⟨m1, m2, m3⟩ := rneeds_val hF h0 hw
      have hs : g28 (w34_0 ra rb rc ps ws) (w34_0 ra rb rc ps ws) = true ∧ w28_0 (w34_0 ra rb rc ps ws) (w34_0 ra rb rc ps ws) = true := by
        refine same_refl ?_
        rw [n3]
        split
        · unfold needL
          rw [ones_len]
          have := hF.ps.1
          omega
        · simp
      rw [a1, a4, g29_true, c1, c2, e1, a2, a3, a5, a6, n1, m1, n2, m2]
      rw [n3] at hs
      rw [n3, m3, hs.1, hs.2]
      have e2 : ∀ b : Bool, (!b == b) = false := by decide
      have e3 : ∀ b : Int, (b != b) = false := by simp
      have e4 : ∀ b : Int, (b == b) = true := by simp
      rw [e2, e3, e4]
      exact ⟨rfl, rfl⟩
    · obtain ⟨⟨a1, a2, a3⟩, a4, a5, a6⟩ := fitsE_err (ws := ws) h0
      obtain ⟨⟨n1, n2, n3⟩, m1, m2, m3⟩ := needs_err (ws := ws) h0
      have hs := same_refl (xs := []) (by simp)
      rw [a1, a4, g29_true, c1, c2, e1, a2, a3, a5, a6, n1, m1, n2, m2, n3, m3, hs.1, hs.2]
      have e3 : ∀ b : Int, (b != b) = false := by simp
      have e4 : ∀ b : Int, (b == b) = true := by simp
      rw [e3, e4]
      exact ⟨rfl, rfl⟩
theorem ints_of {a : AV} (h : TyArg Try.prog 36 a) : ∃ ws, a = .rs 3 ws ∧ ws.length ≤ 9223372036854775807 ∧ (∀ x, x ∈ ws → x.length = (cts Try.prog 3).length) ∧ (∀ x, x ∈ ws → ∀ j, j < x.length → WT Try.prog ((cts Try.prog 3).getD j .oth) (x.getD j .u)) :=
  WT_sl (ty_one (c := .sl 3) (by kernel_rfl) (by kernel_rfl) h)
theorem ridgeChecks_law (avs : List AV) (h : TyArgs Try.prog Try.f7.params.toList avs) : Con Try.prog 7 avs [] (.b true) [] := by
  obtain ⟨a0, r0, rfl, h0, h⟩ := tyArgs_cons h
  obtain ⟨a1, r1, rfl, h1, h⟩ := tyArgs_cons h
  obtain rfl := tyArgs_nil h
  obtain ⟨ra, rb, rc, ps, rfl, _⟩ := ridge_of h0
  obtain ⟨ws, rfl, _⟩ := ints_of h1
  obtain ⟨h1, h2⟩ := checks_law ra rb rc ps ws
  have := con7 ra rb rc ps ws h1
  rw [h2] at this
  exact this
end Go.Proofs.Ytgifjphinkbcaaa

set_option maxRecDepth 100000
set_option linter.unusedVariables false
namespace Go.Proofs.Ytgifjphinkbcaaa
open Go Go.Ev
noncomputable def SN : Ev.Spec := insS 43 e43 (insS 42 e42 (insS 41 e41 (insS 40 e40 (insS 28 e28 (insS 19 e19 (insS 18 e18 (S0)))))))
theorem SN_ok : SpecOK Try.prog SN := insS_ok e43_ok (insS_ok e42_ok (insS_ok e41_ok (insS_ok e40_ok (insS_ok e28_ok (insS_ok e19_ok (insS_ok e18_ok (S0_ok)))))))
end Go.Proofs.Ytgifjphinkbcaaa

set_option maxRecDepth 100000
set_option maxHeartbeats 1000000
set_option linter.unusedVariables false
namespace Go.Proofs.Ytgifjphinkbcaaa
open Go Go.Ev

/-! ### RidgeNths -/
noncomputable def c10 : Code := match Try.f10.body with | some c => c | _ => .skip
theorem lok10 : LOK Try.prog SN (ro 10) (fun _ _ => none) 0 false c10 [] :=
  lok_lo (fun _ _ _ _ _ _ _ h _ => by cases h) c10 [] false (locate_nil _) (by kernel_rfl)
noncomputable def t10 (ra rb rc : Int) (ps : List (List AV)) (x : Int) (ws : List (List AV)) : Tr ((Bool)) :=
  .cn (g18 ra rb rc ps) (.cn (w18_0 ra rb rc ps) (.lf (true)) (.cn (decide ((↑ws.length : Int) > 400)) (.lf (true)) (.cn (g40 ra rb rc ps x) (.cn (g41 ra rb rc ps x) (.cn (w40_1 ra rb rc ps x != w41_1 ra rb rc ps x) (.lf (false)) (.cn (g28 (w40_0 ra rb rc ps x) (w41_0 ra rb rc ps x)) (.cn (!w28_0 (w40_0 ra rb rc ps x) (w41_0 ra rb rc ps x)) (.lf (false)) (.cn (g42 ra rb rc ps ws) (.cn (g43 ra rb rc ps ws) (.cn (w42_0 ra rb rc ps ws == w43_0 ra rb rc ps ws) (.cn (w42_1 ra rb rc ps ws == w43_1 ra rb rc ps ws) (.lf (true)) (.lf (false))) (.lf (false))) (.nn)) (.nn))) (.nn))) (.nn)) (.nn)))) (.nn)
noncomputable def g10 (ra rb rc : Int) (ps : List (List AV)) (x : Int) (ws : List (List AV)) : Bool := (t10 ra rb rc ps x ws).g
noncomputable def w10_0 (ra rb rc : Int) (ps : List (List AV)) (x : Int) (ws : List (List AV)) : Bool := (t10 ra rb rc ps x ws).val
theorem eq10 (ra rb rc : Int) (ps : List (List AV)) (x : Int) (ws : List (List AV)) : evF Try.prog SN (ro 10) (fun _ _ => none) Try.f10 [.agg [.i .i64 ra, .i .i64 rb, .i .i64 rc, .rs 31 ps], .i .i64 x, .rs 3 ws] = (t10 ra rb rc ps x ws).opt (fun (x : (Bool)) => (.b x : AV)) := by kernel_rfl
theorem con10 (ra rb rc : Int) (ps : List (List AV)) (x : Int) (ws : List (List AV)) (h : g10 ra rb rc ps x ws = true) : Con Try.prog 10 [.agg [.i .i64 ra, .i .i64 rb, .i .i64 rc, .rs 31 ps], .i .i64 x, .rs 3 ws] [] (.b (w10_0 ra rb rc ps x ws)) [] :=
  con_of SN_ok mixed Try.func10 (c := c10) rfl (names 10 _ Try.func10) lok10 ((eq10 ra rb rc ps x ws).trans (Tr.sound _ _ h))
noncomputable def e10 (args : List AV) (rows : List Blk) : Option (Bool × AV × List Blk) := match args, rows with
  | [.agg [.i .i64 ra, .i .i64 rb, .i .i64 rc, .rs 31 ps], .i .i64 x, .rs 3 ws], [] => some (g10 ra rb rc ps x ws, .b (w10_0 ra rb rc ps x ws), [])
  | _, _ => none
theorem e10_ok (args : List AV) (rows : List Blk) (pre : Bool) (v : AV) (rows' : List Blk) (h : e10 args rows = some (pre, v, rows')) (hp : pre = true) : Con Try.prog 10 args rows v rows' := by
  unfold e10 at h
  split at h
  · cases h; exact con10 _ _ _ _ _ _ hp
  · cases h
-- SPEC 10
end Go.Proofs.Ytgifjphinkbcaaa

set_option maxRecDepth 100000
set_option linter.unusedVariables false
namespace Go.Proofs.Ytgifjphinkbcaaa
open Go Go.Ev
theorem NthR_len {ps : List (List AV)} {c n h : Nat} {x : Int} {row : List Nat} (hps : okPs ps) (h1 : NthR ps c n h x row) : cnt ps c n h ≤ 1000000000000000 → row.length ≤ n := by
  induction h1 with
  | nil => exact fun _ => Nat.le_refl _
  | cons h0 hi ha hb hr ih =>
    intro hs
    obtain ⟨⟨_, hw⟩, _, _, h4⟩ := sm_fits hps h0 hi hs ha hb
    obtain ⟨p1, p2, p3, p4, p5, p6, p7⟩ := pc_nat hps hi
    have := ih h4
    simp only [List.length_cons]
    omega
/-- Both give the row with a number. -/
theorem nth_same (ra rb rc x : Int) (ps : List (List AV)) : g40 ra rb rc ps x = true ∧ g41 ra rb rc ps x = true ∧ w41_1 ra rb rc ps x = w40_1 ra rb rc ps x ∧ w41_0 ra rb rc ps x = w40_0 ra rb rc ps x ∧ (w40_0 ra rb rc ps x).length ≤ 2000 := by
  by_cases h0 : w29_0 ra rb rc ps = 0
  · have hF := fine_of h0
    obtain ⟨n, b, c, rfl, rfl, rfl, hn, hb, hc⟩ := fine_nat hF
    obtain ⟨g1, g2, g3⟩ := counted_val hF.ps hn hb hc h0
    rcases g3 with ⟨h1, h2, h3⟩ | ⟨hs, h1, h2, h3, h4⟩
    · obtain ⟨⟨a1, a2, a3⟩, a4, a5, a6⟩ := nth_err (x := x) (by rw [h2]; decide) g1 g2 (by rw [h2, h3])
      exact ⟨a1, a4, a5.trans a2.symm, a6.trans a3.symm, by rw [a3]; exact Nat.zero_le _⟩
    · by_cases hx : 0 ≤ x ∧ x < cnt ps c n b
      · obtain ⟨row, hr, ⟨a1, a2, a3⟩, a4, a5, a6⟩ := nth_val hF.ps hn hb hc h0 hs hx
        refine ⟨a1, a4, a5.trans a2.symm, a6.trans a3.symm, ?_⟩
        rw [a3]
        have := NthR_len hF.ps hr hs
        unfold rowAV
        rw [List.length_map]
        omega
      · obtain ⟨⟨a1, a2, a3⟩, a4, a5, a6⟩ := nth_out hF.ps hn hb hc h0 hs hx
        exact ⟨a1, a4, a5.trans a2.symm, a6.trans a3.symm, by rw [a3]; exact Nat.zero_le _⟩
  · obtain ⟨⟨c1, c2⟩, c3, c4⟩ := counted_err h0
    obtain ⟨⟨a1, a2, a3⟩, a4, a5, a6⟩ := nth_err (x := x) (by rw [c2]; exact h0) c1 c3 (by rw [c2, c4])
    exact ⟨a1, a4, a5.trans a2.symm, a6.trans a3.symm, by rw [a3]; exact Nat.zero_le _⟩
theorem rank_same (ra rb rc : Int) (ps ws : List (List AV)) (hws : ws.length < 9223372036854775807) : g42 ra rb rc ps ws = true ∧ g43 ra rb rc ps ws = true ∧ w43_1 ra rb rc ps ws = w42_1 ra rb rc ps ws ∧ w43_0 ra rb rc ps ws = w42_0 ra rb rc ps ws := by
  by_cases h0 : w29_0 ra rb rc ps = 0
  · have hF := fine_of h0
    obtain ⟨n, b, c, rfl, rfl, rfl, hn, hb, hc⟩ := fine_nat hF
    obtain ⟨g1, g2, g3⟩ := counted_val hF.ps hn hb hc h0
    rcases g3 with ⟨h1, h2, h3⟩ | ⟨hs, h1, h2, h3, h4⟩
    · obtain ⟨⟨a1, a2, a3⟩, a4, a5, a6⟩ := rank_err (ws := ws) (by rw [h2]; decide) g1 g2 (by rw [h2, h3])
      exact ⟨a1, a4, a5.trans a2.symm, a6.trans a3.symm⟩
    · obtain ⟨⟨a1, a2, a3⟩, a4, a5, a6⟩ := rank_val hF hn hb hc h0 hs hws
      exact ⟨a1, a4, a5.trans a2.symm, a6.trans a3.symm⟩
  · obtain ⟨⟨c1, c2⟩, c3, c4⟩ := counted_err h0
    obtain ⟨⟨a1, a2, a3⟩, a4, a5, a6⟩ := rank_err (ws := ws) (by rw [c2]; exact h0) c1 c3 (by rw [c2, c4])
    exact ⟨a1, a4, a5.trans a2.symm, a6.trans a3.symm⟩
theorem nths_law (ra rb rc x : Int) (ps ws : List (List AV)) : g10 ra rb rc ps x ws = true ∧ w10_0 ra rb rc ps x ws = true := by
  unfold g10 w10_0 t10
  rw [g18_true]
  cases w18_0 ra rb rc ps with
  | true => exact ⟨rfl, rfl⟩
  | false =>
  cases h : decide ((ws.length : Int) > 400) with
  | true => exact ⟨rfl, rfl⟩
  | false =>
    have hw : ws.length < 9223372036854775807 := by have := of_decide_eq_false h; omega
    obtain ⟨n1, n2, n3, n4, n5⟩ := nth_same ra rb rc x ps
    obtain ⟨r1, r2, r3, r4⟩ := rank_same ra rb rc ps ws hw
    obtain ⟨s1, s2⟩ := same_refl (xs := w40_0 ra rb rc ps x) (by omega)
    have e3 : ∀ b : Int, (b != b) = false := by simp
    have e4 : ∀ b : Int, (b == b) = true := by simp
    rw [n1, n2, n3, n4, r1, r2, r3, r4, s1, s2, e3, e4, e4]
    exact ⟨rfl, rfl⟩
theorem int_of {a : AV} (h : TyArg Try.prog 3 a) : ∃ x, a = .i .i64 x ∧ IntKind.i64.min ≤ x ∧ x ≤ IntKind.i64.max :=
  WT_int (ty_one (c := .int .i64) (by kernel_rfl) (by kernel_rfl) h)
theorem ridgeNths_law (avs : List AV) (h : TyArgs Try.prog Try.f10.params.toList avs) : Con Try.prog 10 avs [] (.b true) [] := by
  obtain ⟨a0, r0, rfl, h0, h⟩ := tyArgs_cons h
  obtain ⟨a1, r1, rfl, h1, h⟩ := tyArgs_cons h
  obtain ⟨a2, r2, rfl, h2, h⟩ := tyArgs_cons h
  obtain rfl := tyArgs_nil h
  obtain ⟨ra, rb, rc, ps, rfl, _⟩ := ridge_of h0
  obtain ⟨x, rfl, _⟩ := int_of h1
  obtain ⟨ws, rfl, _⟩ := ints_of h2
  obtain ⟨h1, h2⟩ := nths_law ra rb rc x ps ws
  have := con10 ra rb rc ps x ws h1
  rw [h2] at this
  exact this
end Go.Proofs.Ytgifjphinkbcaaa

set_option maxRecDepth 100000
set_option linter.unusedVariables false
namespace Go.Proofs.Ytgifjphinkbcaaa
open Go Go.Ev
/-! ### Numbers and rows -/
theorem fitsL_nil (ps : List (List AV)) (c : Nat) : fitsL ps (c : Int) ((0 : Nat) : Int) (c : Int) [] = true := by
  show (((0 : Nat) : Int) == 0 && (c : Int) == (c : Int)) = true
  simp
theorem NthR_fits {ps : List (List AV)} {c n h : Nat} {x : Int} {row : List Nat} (hps : okPs ps) (h1 : NthR ps c n h x row) : cnt ps c n h ≤ 1000000000000000 → fitsL ps (c : Int) (n : Int) (h : Int) (rowI row) = true ∧ rankL ps c n h (rowI row) = x := by
  induction h1 with
  | nil => exact fun _ => ⟨fitsL_nil ps c, rfl⟩
  | cons h0 hi ha hb hr ih =>
    intro hs
    obtain ⟨⟨hl, hw⟩, _, _, h4⟩ := sm_fits hps h0 hi hs ha hb
    obtain ⟨i1, i2⟩ := ih h4
    refine ⟨fitsL_mk hps hi hl hw i1, ?_⟩
    show sm ps c _ _ ((_ : Nat) : Int).toNat + rankL ps c _ _ (rowI _) = _
    rw [Int.toNat_natCast, i2]
    omega
/-- One row is ahead of another one. -/
def ahead : List Int → List Int → Bool
  | [], [] => false
  | [], _ :: _ => true
  | _ :: _, [] => false
  | a :: x, b :: y => if a = b then ahead x y else decide (a < b)
theorem NthR_ahead {ps : List (List AV)} {c n h : Nat} {x y : Int} {r s : List Nat} (hps : okPs ps) (h1 : NthR ps c n h x r) : cnt ps c n h ≤ 1000000000000000 → NthR ps c n h y s → x < y → ahead (rowI r) (rowI s) = true := by
  induction h1 generalizing y s with
  | nil =>
    intro _ h2 hxy
    cases h2 with
    | nil => omega
    | cons h0 _ _ _ _ => omega
  | @cons n h i x r h0 hi ha hb hr ih =>
    intro hs h2 hxy
    cases h2 with
    | nil => omega
    | @cons _ _ j _ s g0 gi ga gb gr =>
      show (if ((i : Nat) : Int) = ((j : Nat) : Int) then ahead (rowI r) (rowI s) else decide (((i : Nat) : Int) < ((j : Nat) : Int))) = true
      by_cases e : i = j
      · subst e
        rw [if_pos rfl]
        obtain ⟨_, _, _, h4⟩ := sm_fits hps h0 hi hs ha hb
        exact ih h4 gr (by omega)
      · rw [if_neg (by omega)]
        refine decide_eq_true ?_
        rcases Nat.lt_trichotomy i j with e' | e' | e'
        · omega
        · exact absurd e' e
        · have := sm_mono (c := c) (h := h) hps h0 hs (show j + 1 ≤ i from e') (by omega)
          omega
theorem before_val {xs ys : List (List AV)} (hx : xs.length < 9223372036854775807) (hy : ys.length < 9223372036854775807) : g44 xs ys = true ∧ w44_0 xs ys = ahead (nums xs) (nums ys) := by
  have hend : ∀ k, k ≤ xs.length → k ≤ ys.length → (k = xs.length ∨ k = ys.length) → ahead ((nums xs).drop k) ((nums ys).drop k) = decide ((xs.length : Int) < (ys.length : Int)) := by
    intro k hkx hky h
    rcases Nat.lt_or_ge k xs.length with h1 | h1
    · have h2 : k = ys.length := by omega
      rw [nums_drop h1, List.drop_of_length_le (l := nums ys) (by rw [nums_len]; omega)]
      exact (decide_eq_false (by omega)).symm
    · rw [List.drop_of_length_le (l := nums xs) (by rw [nums_len]; omega)]
      rcases Nat.lt_or_ge k ys.length with h2 | h2
      · rw [nums_drop h2]
        exact (decide_eq_true (by omega)).symm
      · rw [List.drop_of_length_le (l := nums ys) (by rw [nums_len]; omega)]
        exact (decide_eq_false (by omega)).symm
  have run : ∃ y, r44a xs ys false 0 = some y ∧ (match y with
      | .x0 t _ => t = ahead ((nums xs).drop 0) ((nums ys).drop 0)
      | .x1 _ => decide ((xs.length : Int) < (ys.length : Int)) = ahead ((nums xs).drop 0) ((nums ys).drop 0)) := by
    unfold r44a
    refine run_for (S := Unit) (min xs.length ys.length) (fun k _ => (⟨(k : Int)⟩ : S44a)) (fun _ _ => True) (fun k _ (y : T44a) => match y with
      | .x0 t _ => t = ahead ((nums xs).drop k) ((nums ys).drop k)
      | .x1 _ => decide ((xs.length : Int) < (ys.length : Int)) = ahead ((nums xs).drop k) ((nums ys).drop k)) (fun k _ hk _ => ?_) (fun _ _ => ?_) 0 () (Nat.zero_le _) trivial
    · have hkx : k < xs.length := by omega
      have hky : k < ys.length := by omega
      show (∃ s', stp44a xs ys false (k : Int) = _ ∧ _) ∨ ∃ y, stp44a xs ys false (k : Int) = _ ∧ _
      unfold stp44a
      rw [Int.toNat_natCast]
      simp only [lt_true hkx, lt_true hky, inb_true hkx, inb_true hky, cond_true, wrap_succ (show k < 9223372036854775807 by omega)]
      rw [nums_drop hkx, nums_drop hky]
      have he : ∀ a b x y, ahead (a :: x) (b :: y) = (if a = b then ahead x y else decide (a < b)) := fun _ _ _ _ => rfl
      simp only [he]
      by_cases e : fI (xs.getD k []) 0 = fI (ys.getD k []) 0
      · left
        refine ⟨(), ?_, trivial, fun y hy => ?_⟩
        · rw [e]; simp
        · rw [if_pos e]; exact hy
      · right
        refine ⟨.x0 (decide (fI (xs.getD k []) 0 < fI (ys.getD k []) 0)) (k : Int), ?_, ?_⟩
        · have : (fI (xs.getD k []) 0 != fI (ys.getD k []) 0) = true := by simpa using e
          rw [this]; rfl
        · rw [if_neg e]
    · generalize hm : min xs.length ys.length = k
      refine ⟨.x1 (k : Int), ?_, (hend k (by omega) (by omega) (by omega)).symm⟩
      show stp44a xs ys false (k : Int) = _
      unfold stp44a
      rcases Nat.lt_or_ge k xs.length with h1 | h1
      · have d : decide ((k : Int) < (ys.length : Int)) = false := decide_eq_false (by omega)
        rw [lt_true h1, d]; rfl
      · have d : decide ((k : Int) < (xs.length : Int)) = false := decide_eq_false (by omega)
        rw [d]; rfl
  obtain ⟨y, h1, h2⟩ := run
  rw [List.drop_zero, List.drop_zero] at h2
  unfold g44 w44_0 t44 i44a_0 i44a_1 v44a_0_t4'
  rw [h1]
  cases y with
  | x0 t _ => exact ⟨rfl, h2⟩
  | x1 _ => exact ⟨rfl, h2⟩
/-! ### How long a row is together -/
def longL (ps : List (List AV)) : List Int → Int
  | [] => 0
  | k :: ks => (wd ps k.toNat : Int) + longL ps ks
theorem fitsL_long {ps : List (List AV)} {c : Nat} (hps : okPs ps) : ∀ {ks : List Int} {n h : Nat}, fitsL ps (c : Int) (n : Int) (h : Int) ks = true → longL ps ks = (n : Int) ∧ (ks.length : Int) ≤ n
  | [], n, h, hf => by
    have hf : ((n : Int) == 0 && (h : Int) == (c : Int)) = true := hf
    rw [Bool.and_eq_true, beq_iff_eq] at hf
    refine ⟨?_, ?_⟩
    · show 0 = _; omega
    · simp
  | k :: ks, n, h, hf => by
    obtain ⟨q, rfl, hq, h1, h2, h3, h4⟩ := fitsL_cons hps hf
    obtain ⟨i1, i2⟩ := fitsL_long hps h4
    obtain ⟨p1, p2, p3, p4, p5, p6, p7⟩ := pc_nat hps hq
    refine ⟨?_, ?_⟩
    · show (wd ps ((q : Int)).toNat : Int) + longL ps ks = _
      rw [Int.toNat_natCast, i1]
      omega
    · rw [List.length_cons]
      omega
/-- A sum over what is needed. -/
def sumTo (f : Nat → Int) : Nat → Int
  | 0 => 0
  | k + 1 => sumTo f k + f k
theorem sumTo_add (f g : Nat → Int) : ∀ k, sumTo (fun j => f j + g j) k = sumTo f k + sumTo g k
  | 0 => rfl
  | k + 1 => by
    show sumTo _ k + (f k + g k) = sumTo f k + f k + (sumTo g k + g k)
    rw [sumTo_add f g k]
    omega
theorem sumTo_zero : ∀ k, sumTo (fun _ => 0) k = 0
  | 0 => rfl
  | k + 1 => by
    show sumTo _ k + 0 = 0
    rw [sumTo_zero k]; rfl
theorem sumTo_one (v : Nat → Int) (q : Nat) : ∀ k, sumTo (fun j => if (q : Int) = (j : Int) then v j else 0) k = if q < k then v q else 0
  | 0 => rfl
  | k + 1 => by
    show sumTo _ k + (if (q : Int) = (k : Int) then v k else 0) = _
    rw [sumTo_one v q k]
    rcases Nat.lt_trichotomy q k with h | h | h
    · rw [if_pos h, if_neg (by omega), if_pos (by omega)]; omega
    · subst h
      rw [if_neg (by omega), if_pos rfl, if_pos (by omega)]; omega
    · rw [if_neg (by omega), if_neg (by omega), if_neg (by omega)]; rfl
theorem sumTo_congr {f g : Nat → Int} : ∀ {k : Nat}, (∀ j, j < k → f j = g j) → sumTo f k = sumTo g k
  | 0, _ => rfl
  | k + 1, h => by
    show sumTo f k + f k = sumTo g k + g k
    rw [sumTo_congr (fun j hj => h j (by omega)), h k (by omega)]
theorem need_sum {ps : List (List AV)} (v : Nat → Int) : ∀ {ks : List Int}, allK ps ks → sumTo (fun j => cntIn j ks * v j) ps.length = (ks.map fun k => v k.toNat).sum
  | [], _ => by
    have : (fun j : Nat => cntIn j [] * v j) = fun _ => (0 : Int) := by
      funext j
      show 0 * v j = 0
      omega
    rw [this, sumTo_zero]
    rfl
  | k :: ks, h => by
    obtain ⟨q, rfl, hq⟩ := isK_nat (h k (by simp))
    have hi := need_sum v (ks := ks) (fun k' hk' => h k' (by simp [hk']))
    have : (fun j : Nat => cntIn j ((q : Int) :: ks) * v j) = fun j : Nat => (if (q : Int) = (j : Int) then v j else 0) + cntIn j ks * v j := by
      funext j
      rw [cntIn_cons, Int.add_mul]
      congr 1
      split <;> omega
    rw [this, sumTo_add, hi, sumTo_one, if_pos hq]
    simp
theorem longL_sum (ps : List (List AV)) : ∀ ks : List Int, longL ps ks = (ks.map fun k => (wd ps k.toNat : Int)).sum
  | [] => rfl
  | k :: ks => by
    show _ + longL ps ks = _
    rw [longL_sum ps ks]
    simp
theorem ones_sum : ∀ ks : List Int, (ks.map fun _ => (1 : Int)).sum = (ks.length : Int)
  | [] => rfl
  | k :: ks => by
    simp only [List.map_cons, List.sum_cons, ones_sum ks, List.length_cons]
    omega
end Go.Proofs.Ytgifjphinkbcaaa

set_option maxRecDepth 100000
set_option linter.unusedVariables false
namespace Go.Proofs.Ytgifjphinkbcaaa
open Go Go.Ev
/-! ### Rows from behind, and in a mirror -/
theorem sumTo_swap (G : Nat → Nat → Int) (m : Nat) : ∀ n, sumTo (fun k => sumTo (fun j => G k j) m) n = sumTo (fun j => sumTo (fun k => G k j) n) m
  | 0 => (sumTo_zero m).symm
  | n + 1 => by
    show sumTo _ n + sumTo (fun j => G n j) m = sumTo (fun j => sumTo (fun k => G k j) n + G n j) m
    rw [sumTo_add, sumTo_swap G m n]
theorem sumTo_null {f : Nat → Int} {k : Nat} (h : ∀ j, j < k → f j = 0) : sumTo f k = 0 := (sumTo_congr h).trans (sumTo_zero k)
/-- All rows, by their first piece. -/
noncomputable def tw (ps : List (List AV)) (c : Nat) (n h : Nat) : Int :=
  if n = 0 then (if h = c then 1 else 0) else sumTo (fun k => if hk : lf ps k = h ∧ 1 ≤ wd ps k ∧ wd ps k ≤ n then tw ps c (n - wd ps k) (rt ps k) else 0) ps.length
termination_by n
decreasing_by omega
/-- All rows, by their last piece. -/
noncomputable def ts (ps : List (List AV)) (h : Nat) (n c : Nat) : Int :=
  if n = 0 then (if h = c then 1 else 0) else sumTo (fun j => if hj : rt ps j = c ∧ 1 ≤ wd ps j ∧ wd ps j ≤ n then ts ps h (n - wd ps j) (lf ps j) else 0) ps.length
termination_by n
decreasing_by omega
theorem tw_zero (ps : List (List AV)) (c h : Nat) : tw ps c 0 h = if h = c then 1 else 0 := by
  rw [tw, if_pos rfl]
theorem ts_zero (ps : List (List AV)) (c h : Nat) : ts ps h 0 c = if h = c then 1 else 0 := by
  rw [ts, if_pos rfl]
theorem tw_pos (ps : List (List AV)) (c h : Nat) {n : Nat} (hn : 0 < n) : tw ps c n h = sumTo (fun k => if lf ps k = h ∧ 1 ≤ wd ps k ∧ wd ps k ≤ n then tw ps c (n - wd ps k) (rt ps k) else 0) ps.length := by
  rw [tw, if_neg (by omega)]
  refine sumTo_congr fun j _ => ?_
  split <;> rfl
theorem ts_pos (ps : List (List AV)) (c h : Nat) {n : Nat} (hn : 0 < n) : ts ps h n c = sumTo (fun j => if rt ps j = c ∧ 1 ≤ wd ps j ∧ wd ps j ≤ n then ts ps h (n - wd ps j) (lf ps j) else 0) ps.length := by
  rw [ts, if_neg (by omega)]
  refine sumTo_congr fun j _ => ?_
  split <;> rfl
theorem sumTo_if (P : Prop) [Decidable P] (f : Nat → Int) (k : Nat) : (if P then sumTo f k else 0) = sumTo (fun j => if P then f j else 0) k := by
  split
  · rfl
  · exact (sumTo_zero k).symm
theorem tw_ts (ps : List (List AV)) : ∀ (n c h : Nat), tw ps c n h = ts ps h n c := by
  intro n
  induction n using Nat.strongRecOn with
  | ind n ih =>
  intro c h
  rcases Nat.eq_zero_or_pos n with rfl | hn
  · rw [tw_zero, ts_zero]
  rw [tw_pos ps c h hn, ts_pos ps c h hn]
  have e1 : ∀ k, (if lf ps k = h ∧ 1 ≤ wd ps k ∧ wd ps k ≤ n then tw ps c (n - wd ps k) (rt ps k) else 0)
      = (if lf ps k = h ∧ rt ps k = c ∧ wd ps k = n then 1 else 0) + sumTo (fun j => if lf ps k = h ∧ rt ps j = c ∧ 1 ≤ wd ps k ∧ 1 ≤ wd ps j ∧ wd ps k + wd ps j ≤ n then ts ps (rt ps k) (n - wd ps k - wd ps j) (lf ps j) else 0) ps.length := by
    intro k
    by_cases hk : lf ps k = h ∧ 1 ≤ wd ps k ∧ wd ps k ≤ n
    · rw [if_pos hk, ih (n - wd ps k) (by omega)]
      rcases Nat.eq_zero_or_pos (n - wd ps k) with hz | hp
      · rw [hz, ts_zero]
        have : sumTo (fun j => if lf ps k = h ∧ rt ps j = c ∧ 1 ≤ wd ps k ∧ 1 ≤ wd ps j ∧ wd ps k + wd ps j ≤ n then ts ps (rt ps k) (n - wd ps k - wd ps j) (lf ps j) else 0) ps.length = 0 := by
          exact sumTo_null fun j _ => if_neg (by omega)
        rw [hz] at this
        rw [this, Int.add_zero]
        by_cases hc : rt ps k = c
        · rw [if_pos hc, if_pos ⟨hk.1, hc, by omega⟩]
        · rw [if_neg hc, if_neg (fun h' => hc h'.2.1)]
      · rw [ts_pos ps c _ hp, if_neg (by omega), Int.zero_add]
        refine sumTo_congr fun j _ => ?_
        by_cases hj : rt ps j = c ∧ 1 ≤ wd ps j ∧ wd ps j ≤ n - wd ps k
        · rw [if_pos hj, if_pos ⟨hk.1, hj.1, hk.2.1, hj.2.1, by omega⟩]
        · rw [if_neg hj, if_neg (fun h' => hj ⟨h'.2.1, h'.2.2.2.1, by omega⟩)]
    · rw [if_neg hk, if_neg (fun h' => hk ⟨h'.1, by omega, by omega⟩)]
      rw [show sumTo (fun j => if lf ps k = h ∧ rt ps j = c ∧ 1 ≤ wd ps k ∧ 1 ≤ wd ps j ∧ wd ps k + wd ps j ≤ n then ts ps (rt ps k) (n - wd ps k - wd ps j) (lf ps j) else 0) ps.length = 0 from by
        exact sumTo_null fun j _ => if_neg (fun h' => hk ⟨h'.1, h'.2.2.1, by omega⟩)]
      rfl
  have e2 : ∀ j, (if rt ps j = c ∧ 1 ≤ wd ps j ∧ wd ps j ≤ n then ts ps h (n - wd ps j) (lf ps j) else 0)
      = (if lf ps j = h ∧ rt ps j = c ∧ wd ps j = n then 1 else 0) + sumTo (fun k => if lf ps k = h ∧ rt ps j = c ∧ 1 ≤ wd ps k ∧ 1 ≤ wd ps j ∧ wd ps k + wd ps j ≤ n then ts ps (rt ps k) (n - wd ps k - wd ps j) (lf ps j) else 0) ps.length := by
    intro j
    by_cases hj : rt ps j = c ∧ 1 ≤ wd ps j ∧ wd ps j ≤ n
    · rw [if_pos hj, ← ih (n - wd ps j) (by omega)]
      rcases Nat.eq_zero_or_pos (n - wd ps j) with hz | hp
      · rw [hz, tw_zero]
        have : sumTo (fun k => if lf ps k = h ∧ rt ps j = c ∧ 1 ≤ wd ps k ∧ 1 ≤ wd ps j ∧ wd ps k + wd ps j ≤ n then ts ps (rt ps k) (n - wd ps k - wd ps j) (lf ps j) else 0) ps.length = 0 := by
          exact sumTo_null fun k _ => if_neg (by omega)
        rw [this, Int.add_zero]
        by_cases hc : h = lf ps j
        · rw [if_pos hc, if_pos ⟨hc.symm, hj.1, by omega⟩]
        · rw [if_neg hc, if_neg (fun h' => hc h'.1.symm)]
      · rw [tw_pos ps _ _ hp, if_neg (by omega), Int.zero_add]
        refine sumTo_congr fun k _ => ?_
        by_cases hk : lf ps k = h ∧ 1 ≤ wd ps k ∧ wd ps k ≤ n - wd ps j
        · rw [if_pos hk, if_pos ⟨hk.1, hj.1, hk.2.1, hj.2.1, by omega⟩, ih (n - wd ps j - wd ps k) (by omega), Nat.sub_right_comm]
        · rw [if_neg hk, if_neg (fun h' => hk ⟨h'.1, h'.2.2.1, by omega⟩)]
    · rw [if_neg hj, if_neg (fun h' => hj ⟨h'.2.1, by omega, by omega⟩)]
      rw [show sumTo (fun k => if lf ps k = h ∧ rt ps j = c ∧ 1 ≤ wd ps k ∧ 1 ≤ wd ps j ∧ wd ps k + wd ps j ≤ n then ts ps (rt ps k) (n - wd ps k - wd ps j) (lf ps j) else 0) ps.length = 0 from by
        exact sumTo_null fun k _ => if_neg (fun h' => hj ⟨h'.2.1, h'.2.2.2.1, by omega⟩)]
      rfl
  rw [sumTo_congr (fun k _ => e1 k), sumTo_congr (fun j _ => e2 j), sumTo_add, sumTo_add, sumTo_swap]
/-! The mirror. -/
def mi (ps : List (List AV)) (k : Nat) : Nat := (fI (ps.getD k []) 4).toNat
def Mir (ps : List (List AV)) : Prop := ∀ k, k < ps.length → mirs ps k
theorem mi_ok {ps : List (List AV)} (hps : okPs ps) (hm : Mir ps) {k : Nat} (hk : k < ps.length) : fI (ps.getD k []) 4 = (mi ps k : Int) ∧ mi ps k < ps.length ∧ mi ps (mi ps k) = k ∧ wd ps (mi ps k) = wd ps k ∧ lf ps (mi ps k) = rt ps k ∧ rt ps (mi ps k) = lf ps k := by
  obtain ⟨q, hq, h1, h2, h3, h4, h5⟩ := hm k hk
  have e : mi ps k = q := by unfold mi; omega
  rw [e]
  refine ⟨h1, hq, by unfold mi; omega, ?_, ?_, ?_⟩
  · unfold wd pL; rw [h3]
  · unfold lf rt pA pB; rw [h4]
  · unfold lf rt pA pB; rw [h5]
theorem sumTo_mi {ps : List (List AV)} (hps : okPs ps) (hm : Mir ps) (f : Nat → Int) : sumTo (fun j => f (mi ps j)) ps.length = sumTo f ps.length := by
  have h1 : sumTo (fun j => f (mi ps j)) ps.length = sumTo (fun j => sumTo (fun i => if (mi ps j : Int) = (i : Int) then f i else 0) ps.length) ps.length := by
    refine sumTo_congr fun j hj => ?_
    rw [sumTo_one, if_pos (mi_ok hps hm hj).2.1]
  rw [h1, sumTo_swap]
  refine sumTo_congr fun i hi => ?_
  have : sumTo (fun j => if (mi ps j : Int) = (i : Int) then f i else 0) ps.length = sumTo (fun j => if (mi ps i : Int) = (j : Int) then f i else 0) ps.length := by
    refine sumTo_congr fun j hj => ?_
    obtain ⟨_, a1, a2, _⟩ := mi_ok hps hm hj
    obtain ⟨_, b1, b2, _⟩ := mi_ok hps hm hi
    by_cases e : mi ps j = i
    · rw [if_pos (by omega), if_pos (by rw [← e, a2])]
    · rw [if_neg (by omega), if_neg (fun h' => e (by
        have : mi ps i = j := by omega
        rw [← this, b2]))]
  rw [this]
  have := sumTo_one (fun _ => f i) (mi ps i) ps.length
  rw [this, if_pos (mi_ok hps hm hi).2.1]
theorem ts_mir {ps : List (List AV)} (hps : okPs ps) (hm : Mir ps) : ∀ (n c h : Nat), ts ps h n c = tw ps h n c := by
  intro n
  induction n using Nat.strongRecOn with
  | ind n ih =>
  intro c h
  rcases Nat.eq_zero_or_pos n with rfl | hn
  · rw [tw_zero, ts_zero]
    by_cases e : h = c
    · rw [if_pos e, if_pos e.symm]
    · rw [if_neg e, if_neg (fun e' => e e'.symm)]
  · rw [tw_pos ps h c hn, ts_pos ps c h hn, ← sumTo_mi hps hm]
    refine sumTo_congr fun k hk => ?_
    obtain ⟨_, a1, a2, a3, a4, a5⟩ := mi_ok hps hm hk
    rw [a3, a4, a5]
    split
    · exact ih (n - wd ps k) (by omega) _ _
    · rfl
/-- As many rows in the mirror. -/
theorem tw_mir {ps : List (List AV)} (hps : okPs ps) (hm : Mir ps) (n c h : Nat) : tw ps c n h = tw ps h n c := (tw_ts ps n c h).trans (ts_mir hps hm n c h)
theorem tw_nonneg (ps : List (List AV)) (c : Nat) : ∀ (n h : Nat), 0 ≤ tw ps c n h := by
  intro n
  induction n using Nat.strongRecOn with
  | ind n ih =>
  intro h
  rcases Nat.eq_zero_or_pos n with rfl | hn
  · rw [tw_zero]; split <;> omega
  · rw [tw_pos ps c h hn]
    have : ∀ k, 0 ≤ sumTo (fun k => if lf ps k = h ∧ 1 ≤ wd ps k ∧ wd ps k ≤ n then tw ps c (n - wd ps k) (rt ps k) else 0) k := by
      intro k
      induction k with
      | zero => exact Int.le_refl _
      | succ k ihk =>
        show 0 ≤ sumTo _ k + (if _ then _ else _)
        split
        · have := ih (n - wd ps k) (by omega) (rt ps k)
          omega
        · omega
    exact this _
/-- The counts are those of all rows, up to the limit. -/
theorem cnt_tw {ps : List (List AV)} {c : Nat} (hps : okPs ps) : ∀ (n h : Nat), cnt ps c n h = bmin (tw ps c n h) cap := by
  intro n
  induction n using Nat.strongRecOn with
  | ind n ih =>
  intro h
  rcases Nat.eq_zero_or_pos n with rfl | hn
  · rw [cnt_zero, tw_zero, bmin_le]
    unfold cap
    split <;> simp
  · rw [← sm_len hps hn, tw_pos ps c h hn]
    have : ∀ k, k ≤ ps.length → sm ps c n h k = bmin (sumTo (fun k => if lf ps k = h ∧ 1 ≤ wd ps k ∧ wd ps k ≤ n then tw ps c (n - wd ps k) (rt ps k) else 0) k) cap ∧ 0 ≤ sumTo (fun k => if lf ps k = h ∧ 1 ≤ wd ps k ∧ wd ps k ≤ n then tw ps c (n - wd ps k) (rt ps k) else 0) k := by
      intro k
      induction k with
      | zero =>
        intro _
        refine ⟨?_, Int.le_refl _⟩
        show 0 = bmin 0 cap
        rw [bmin_le]; unfold cap; simp
      | succ k ihk =>
        intro hk
        obtain ⟨i1, i2⟩ := ihk (by omega)
        obtain ⟨p1, p2, p3, p4, p5, p6, p7⟩ := pc_nat hps (show k < ps.length by omega)
        have ht : sm ps c n h (k + 1) = acc (fun m => cnt ps c m) n h (sm ps c n h k) (ps.getD k []) := take_acc (by omega)
        have hx := tw_nonneg ps c (n - wd ps k) (rt ps k)
        show sm ps c n h (k + 1) = bmin (sumTo _ k + (if lf ps k = h ∧ 1 ≤ wd ps k ∧ wd ps k ≤ n then tw ps c (n - wd ps k) (rt ps k) else 0)) cap ∧ 0 ≤ sumTo _ k + (if lf ps k = h ∧ 1 ≤ wd ps k ∧ wd ps k ≤ n then tw ps c (n - wd ps k) (rt ps k) else 0)
        rw [ht, i1]
        generalize sumTo (fun k => if lf ps k = h ∧ 1 ≤ wd ps k ∧ wd ps k ≤ n then tw ps c (n - wd ps k) (rt ps k) else 0) k = s at i2
        unfold acc
        have e : (pA (ps.getD k []) = h ∧ pL (ps.getD k []) ≤ n) = (lf ps k = h ∧ wd ps k ≤ n) := rfl
        simp only [e]
        by_cases hc : lf ps k = h ∧ wd ps k ≤ n
        · rw [if_pos hc, if_pos ⟨hc.1, p4, hc.2⟩]
          have hi := ih (n - wd ps k) (by omega) (rt ps k)
          change bmin (bmin s cap + cnt ps c (n - wd ps k) (rt ps k)) cap = _ ∧ _
          rw [hi]
          generalize tw ps c (n - wd ps k) (rt ps k) = t at hx
          have hcap : (0 : Int) ≤ cap := by unfold cap; omega
          refine ⟨?_, by omega⟩
          rw [bmin_le, bmin_le, bmin_le, bmin_le]
          generalize cap = m at hcap
          repeat' split
          all_goals omega
        · rw [if_neg hc, if_neg (fun h' => hc ⟨h'.1, h'.2.2⟩)]
          exact ⟨by rw [Int.add_zero], by omega⟩
    exact (this ps.length (Nat.le_refl _)).1
theorem cnt_mir {ps : List (List AV)} (hps : okPs ps) (hm : Mir ps) (n c h : Nat) : cnt ps c n h = cnt ps h n c := by
  rw [cnt_tw hps, cnt_tw hps, tw_mir hps hm]
/-! Rows in the mirror. -/
theorem fitsL_snoc {ps : List (List AV)} (hps : okPs ps) {c q : Nat} (hq : q < ps.length) : ∀ {ks : List Int} {n h : Nat}, fitsL ps (c : Int) (n : Int) (h : Int) (ks ++ [(q : Int)]) = true ↔ (rt ps q = c ∧ wd ps q ≤ n ∧ fitsL ps (lf ps q : Int) ((n - wd ps q : Nat) : Int) (h : Int) ks = true)
  | [], n, h => by
    obtain ⟨p1, p2, p3, p4, p5, p6, p7⟩ := pc_nat hps hq
    have e0 : ∀ (c n h : Nat), fitsL ps (c : Int) (n : Int) (h : Int) [] = true ↔ n = 0 ∧ h = c := by
      intro c n h
      show (((n : Int) == 0 && (h : Int) == (c : Int)) = true) ↔ _
      rw [Bool.and_eq_true, beq_iff_eq, beq_iff_eq]
      omega
    constructor
    · intro h1
      obtain ⟨q', e, hq', h2, h3, h4, h5⟩ := fitsL_cons hps h1
      have : q' = q := by omega
      subst this
      rw [e0] at h5
      exact ⟨h5.2, h3, (e0 _ _ _).2 ⟨h5.1, h2.symm⟩⟩
    · rintro ⟨h1, h2, h3⟩
      rw [e0] at h3
      exact fitsL_mk hps hq h3.2.symm h2 ((e0 _ _ _).2 ⟨h3.1, h1⟩)
  | k :: ks, n, h => by
    obtain ⟨p1, p2, p3, p4, p5, p6, p7⟩ := pc_nat hps hq
    constructor
    · intro h1
      obtain ⟨r, rfl, hr, h2, h3, h4, h5⟩ := fitsL_cons hps (show fitsL ps (c : Int) (n : Int) (h : Int) (k :: (ks ++ [(q : Int)])) = true from h1)
      obtain ⟨i1, i2, i3⟩ := (fitsL_snoc hps hq).1 h5
      refine ⟨i1, by omega, fitsL_mk hps hr h2 (by omega) ?_⟩
      rw [Nat.sub_right_comm]
      exact i3
    · rintro ⟨h1, h2, h3⟩
      obtain ⟨r, rfl, hr, h4, h5, h6, h7⟩ := fitsL_cons hps h3
      refine fitsL_mk hps hr h4 (by omega) ((fitsL_snoc hps hq).2 ⟨h1, by omega, ?_⟩)
      rw [Nat.sub_right_comm]
      exact h7
/-- A row as it is seen in a mirror. -/
def imgL (ps : List (List AV)) : List Int → List Int
  | [] => []
  | k :: ks => imgL ps ks ++ [(mi ps k.toNat : Int)]
theorem fitsL_img {ps : List (List AV)} (hps : okPs ps) (hm : Mir ps) {c : Nat} : ∀ {ks : List Int} {n h : Nat}, allK ps ks → fitsL ps (c : Int) (n : Int) (h : Int) ks = fitsL ps (h : Int) (n : Int) (c : Int) (imgL ps ks)
  | [], n, h, _ => by
    show ((n : Int) == 0 && (h : Int) == (c : Int)) = ((n : Int) == 0 && (c : Int) == (h : Int))
    congr 1
    rw [Bool.eq_iff_iff, beq_iff_eq, beq_iff_eq]
    exact ⟨fun e => e.symm, fun e => e.symm⟩
  | k :: ks, n, h, ha => by
    obtain ⟨q, rfl, hq⟩ := isK_nat (ha k (by simp))
    have ha' : allK ps ks := fun k' hk' => ha k' (by simp [hk'])
    obtain ⟨_, a1, a2, a3, a4, a5⟩ := mi_ok hps hm hq
    have e : imgL ps ((q : Int) :: ks) = imgL ps ks ++ [(mi ps q : Int)] := by
      show imgL ps ks ++ [(mi ps ((q : Int)).toNat : Int)] = _
      rw [Int.toNat_natCast]
    rw [Bool.eq_iff_iff, e, fitsL_snoc hps a1, a3, a4, a5]
    constructor
    · intro h1
      obtain ⟨q', e', hq', h2, h3, h4, h5⟩ := fitsL_cons hps h1
      have : q' = q := by omega
      subst this
      rw [fitsL_img hps hm ha'] at h5
      exact ⟨h2, h3, h5⟩
    · rintro ⟨h1, h2, h3⟩
      rw [← fitsL_img hps hm ha'] at h3
      exact fitsL_mk hps hq h1 h2 h3
end Go.Proofs.Ytgifjphinkbcaaa

set_option maxRecDepth 100000
set_option maxHeartbeats 1000000
set_option linter.unusedVariables false
namespace Go.Proofs.Ytgifjphinkbcaaa
open Go Go.Ev

/-! ### some -/
noncomputable def c39 : Code := match Try.f39.body with | some c => c | _ => .skip
theorem lok39 : LOK Try.prog Sh (ro 39) (fun _ _ => none) 0 false c39 [] :=
  lok_lo (fun _ _ _ _ _ _ _ h _ => by cases h) c39 [] false (locate_nil _) (by kernel_rfl)
noncomputable def t39 (ra rb rc : Int) (ps : List (List AV)) (x : Int) : Tr ((Int) × (Bool)) :=
  .cn (g20 ra rb rc ps) (.cn (w20_1 ra rb rc ps != 0) (.lf (0, false)) (.cn (decide (w20_0 ra rb rc ps < 1)) (.lf (0, false)) (.cn (decide (x < 0)) (.lf (0, false)) (.cn (decide (w20_0 ra rb rc ps = 0)) (.nn) (.lf (x.tmod (w20_0 ra rb rc ps), true)))))) (.nn)
noncomputable def g39 (ra rb rc : Int) (ps : List (List AV)) (x : Int) : Bool := (t39 ra rb rc ps x).g
noncomputable def w39_0 (ra rb rc : Int) (ps : List (List AV)) (x : Int) : Int := (t39 ra rb rc ps x).val.1
noncomputable def w39_1 (ra rb rc : Int) (ps : List (List AV)) (x : Int) : Bool := (t39 ra rb rc ps x).val.2
theorem eq39 (ra rb rc : Int) (ps : List (List AV)) (x : Int) : evF Try.prog Sh (ro 39) (fun _ _ => none) Try.f39 [.agg [.i .i64 ra, .i .i64 rb, .i .i64 rc, .rs 31 ps], .i .i64 x] = (t39 ra rb rc ps x).opt (fun (x : (Int) × (Bool)) => (.tup [.i .i64 x.1, .b x.2] : AV)) := by kernel_rfl
theorem con39 (ra rb rc : Int) (ps : List (List AV)) (x : Int) (h : g39 ra rb rc ps x = true) : Con Try.prog 39 [.agg [.i .i64 ra, .i .i64 rb, .i .i64 rc, .rs 31 ps], .i .i64 x] [] (.tup [.i .i64 (w39_0 ra rb rc ps x), .b (w39_1 ra rb rc ps x)]) [] :=
  con_of Sh_ok mixed Try.func39 (c := c39) rfl (names 39 _ Try.func39) lok39 ((eq39 ra rb rc ps x).trans (Tr.sound _ _ h))
noncomputable def e39 (args : List AV) (rows : List Blk) : Option (Bool × AV × List Blk) := match args, rows with
  | [.agg [.i .i64 ra, .i .i64 rb, .i .i64 rc, .rs 31 ps], .i .i64 x], [] => some (g39 ra rb rc ps x, .tup [.i .i64 (w39_0 ra rb rc ps x), .b (w39_1 ra rb rc ps x)], [])
  | _, _ => none
theorem e39_ok (args : List AV) (rows : List Blk) (pre : Bool) (v : AV) (rows' : List Blk) (h : e39 args rows = some (pre, v, rows')) (hp : pre = true) : Con Try.prog 39 args rows v rows' := by
  unfold e39 at h
  split at h
  · cases h; exact con39 _ _ _ _ _ hp
  · cases h
-- SPEC 39
end Go.Proofs.Ytgifjphinkbcaaa

set_option maxRecDepth 100000
set_option linter.unusedVariables false
namespace Go.Proofs.Ytgifjphinkbcaaa
open Go Go.Ev
noncomputable def SR : Ev.Spec := insS 44 e44 (insS 42 e42 (insS 40 e40 (insS 39 e39 (insS 34 e34 (insS 31 e31 (insS 30 e30 (insS 29 e29 (insS 20 e20 (insS 19 e19 (insS 18 e18 (S0)))))))))))
theorem SR_ok : SpecOK Try.prog SR := insS_ok e44_ok (insS_ok e42_ok (insS_ok e40_ok (insS_ok e39_ok (insS_ok e34_ok (insS_ok e31_ok (insS_ok e30_ok (insS_ok e29_ok (insS_ok e20_ok (insS_ok e19_ok (insS_ok e18_ok (S0_ok)))))))))))
end Go.Proofs.Ytgifjphinkbcaaa

set_option maxRecDepth 100000
set_option maxHeartbeats 1000000
set_option linter.unusedVariables false
namespace Go.Proofs.Ytgifjphinkbcaaa
open Go Go.Ev

/-! ### RidgeRanks -/
noncomputable def c11 : Code := match Try.f11.body with | some c => c | _ => .skip
theorem lok11 : LOK Try.prog SR (ro 11) (fun _ _ => none) 0 false c11 [] :=
  lok_lo (fun _ _ _ _ _ _ _ h _ => by cases h) c11 [] false (locate_nil _) (by kernel_rfl)
noncomputable def t11 (ra rb rc : Int) (ps : List (List AV)) (x : Int) : Tr ((Bool)) :=
  .cn (g18 ra rb rc ps) (.cn (w18_0 ra rb rc ps) (.lf (true)) (.cn (g39 ra rb rc ps x) (.cn (!w39_1 ra rb rc ps x) (.lf (true)) (.cn (g40 ra rb rc ps (w39_0 ra rb rc ps x)) (.cn (g30 ra rb rc ps (w40_0 ra rb rc ps (w39_0 ra rb rc ps x))) (.cn (g42 ra rb rc ps (w40_0 ra rb rc ps (w39_0 ra rb rc ps x))) (.cn (w40_1 ra rb rc ps (w39_0 ra rb rc ps x) != 0) (.lf (false)) (.cn (w30_1 ra rb rc ps (w40_0 ra rb rc ps (w39_0 ra rb rc ps x)) != 0) (.lf (false)) (.cn (w42_1 ra rb rc ps (w40_0 ra rb rc ps (w39_0 ra rb rc ps x)) != 0) (.lf (false)) (.cn (!w30_0 ra rb rc ps (w40_0 ra rb rc ps (w39_0 ra rb rc ps x))) (.lf (false)) (.cn (w42_0 ra rb rc ps (w40_0 ra rb rc ps (w39_0 ra rb rc ps x)) != w39_0 ra rb rc ps x) (.lf (false)) (.cn (g20 ra rb rc ps) (.cn (g40 ra rb rc ps (IntKind.i64.wrap (w39_0 ra rb rc ps x + 1))) (.cn (IntKind.i64.wrap (w39_0 ra rb rc ps x + 1) == w20_0 ra rb rc ps) (.cn (w20_1 ra rb rc ps == 0) (.cn (w40_1 ra rb rc ps (IntKind.i64.wrap (w39_0 ra rb rc ps x + 1)) == 1) (.cn ((↑(w40_0 ra rb rc ps (IntKind.i64.wrap (w39_0 ra rb rc ps x + 1))).length : Int) == 0) (.lf (true)) (.lf (false))) (.lf (false))) (.lf (false))) (.cn (w20_1 ra rb rc ps == 0) (.cn (w40_1 ra rb rc ps (IntKind.i64.wrap (w39_0 ra rb rc ps x + 1)) == 0) (.cn (g44 (w40_0 ra rb rc ps (w39_0 ra rb rc ps x)) (w40_0 ra rb rc ps (IntKind.i64.wrap (w39_0 ra rb rc ps x + 1)))) (.cn (w44_0 (w40_0 ra rb rc ps (w39_0 ra rb rc ps x)) (w40_0 ra rb rc ps (IntKind.i64.wrap (w39_0 ra rb rc ps x + 1)))) (.lf (true)) (.lf (false))) (.nn)) (.lf (false))) (.lf (false)))) (.nn)) (.nn))))))) (.nn)) (.nn)) (.nn))) (.nn))) (.nn)
noncomputable def g11 (ra rb rc : Int) (ps : List (List AV)) (x : Int) : Bool := (t11 ra rb rc ps x).g
noncomputable def w11_0 (ra rb rc : Int) (ps : List (List AV)) (x : Int) : Bool := (t11 ra rb rc ps x).val
theorem eq11 (ra rb rc : Int) (ps : List (List AV)) (x : Int) : evF Try.prog SR (ro 11) (fun _ _ => none) Try.f11 [.agg [.i .i64 ra, .i .i64 rb, .i .i64 rc, .rs 31 ps], .i .i64 x] = (t11 ra rb rc ps x).opt (fun (x : (Bool)) => (.b x : AV)) := by kernel_rfl
theorem con11 (ra rb rc : Int) (ps : List (List AV)) (x : Int) (h : g11 ra rb rc ps x = true) : Con Try.prog 11 [.agg [.i .i64 ra, .i .i64 rb, .i .i64 rc, .rs 31 ps], .i .i64 x] [] (.b (w11_0 ra rb rc ps x)) [] :=
  con_of SR_ok mixed Try.func11 (c := c11) rfl (names 11 _ Try.func11) lok11 ((eq11 ra rb rc ps x).trans (Tr.sound _ _ h))
noncomputable def e11 (args : List AV) (rows : List Blk) : Option (Bool × AV × List Blk) := match args, rows with
  | [.agg [.i .i64 ra, .i .i64 rb, .i .i64 rc, .rs 31 ps], .i .i64 x], [] => some (g11 ra rb rc ps x, .b (w11_0 ra rb rc ps x), [])
  | _, _ => none
theorem e11_ok (args : List AV) (rows : List Blk) (pre : Bool) (v : AV) (rows' : List Blk) (h : e11 args rows = some (pre, v, rows')) (hp : pre = true) : Con Try.prog 11 args rows v rows' := by
  unfold e11 at h
  split at h
  · cases h; exact con11 _ _ _ _ _ hp
  · cases h
-- SPEC 11
end Go.Proofs.Ytgifjphinkbcaaa

set_option maxRecDepth 100000
set_option maxHeartbeats 1000000
set_option linter.unusedVariables false
namespace Go.Proofs.Ytgifjphinkbcaaa
open Go Go.Ev

/-! ### RidgeNeeds -/
noncomputable def c9 : Code := match Try.f9.body with | some c => c | _ => .skip
noncomputable def lp9a : Code := loopAt c9 [true, true, true, true, true, true, true, true, false, true, false]
noncomputable def s9a (ra : Int) (rb : Int) (rc : Int) (ps : List (List AV)) (t4 : Bool) (t7 : List (List AV)) (t9 : List (List AV)) (t11 : Int) (t12 : Int) (t13 : Int) : St :=
  { t := [(2, .rp [.int .i64, .int .i64, .int .i64, .sl 31] [.i .i64 ra, .i .i64 rb, .i .i64 rc, .rs 31 ps] 0), (4, .b t4), (7, .rs 3 t7), (9, .rs 3 t9), (11, .i .i64 t11), (12, .i .i64 t12), (13, .i .i64 t13)], m := [], nx := 0, nt := 104 }
structure S9a where
  t11 : Int
  t12 : Int
  t13 : Int
inductive T9a where
  | x0 (t4' : Bool) (t11 : Int) (t12 : Int) (t13 : Int)
  | x1 (t11 : Int) (t12 : Int) (t13 : Int)
noncomputable def stp9a (ra : Int) (rb : Int) (rc : Int) (ps : List (List AV)) (t4 : Bool) (t7 : List (List AV)) (t9 : List (List AV)) (t11 : Int) (t12 : Int) (t13 : Int) : Lp S9a T9a :=
  cond (decide (t13 < (↑t9.length : Int))) (cond (inb t13 t9.length) (cond (decide (fI (t9.getD t13.toNat []) 0 < 0)) (.out (.x0 false t11 t12 t13)) (cond (inb t13 t9.length) (cond (decide (fI (t9.getD t13.toNat []) 0 > (↑t7.length : Int))) (.out (.x0 false t11 t12 t13)) (cond (inb t13 t9.length) (cond (inb t13 ps.length) (cond (inb t13 t9.length) (.go ⟨IntKind.i64.wrap (t11 + IntKind.i64.wrap (fI (t9.getD t13.toNat []) 0 * fI (ps.getD t13.toNat []) 1)), IntKind.i64.wrap (t12 + fI (t9.getD t13.toNat []) 0), IntKind.i64.wrap (t13 + 1)⟩) (.bad)) (.bad)) (.bad))) (.bad))) (.bad)) (.out (.x1 t11 t12 t13))
noncomputable def o9a_0 (ra : Int) (rb : Int) (rc : Int) (ps : List (List AV)) (t4 : Bool) (t7 : List (List AV)) (t9 : List (List AV)) (t4' : Bool) (t11 : Int) (t12 : Int) (t13 : Int) : St :=
  { t := [(2, .rp [.int .i64, .int .i64, .int .i64, .sl 31] [.i .i64 ra, .i .i64 rb, .i .i64 rc, .rs 31 ps] 0), (4, .b t4'), (7, .rs 3 t7), (9, .rs 3 t9), (11, .i .i64 t11), (12, .i .i64 t12), (13, .i .i64 t13)], m := [], nx := 0, nt := 104 }
noncomputable def o9a_1 (ra : Int) (rb : Int) (rc : Int) (ps : List (List AV)) (t4 : Bool) (t7 : List (List AV)) (t9 : List (List AV)) (t11 : Int) (t12 : Int) (t13 : Int) : St :=
  { t := [(2, .rp [.int .i64, .int .i64, .int .i64, .sl 31] [.i .i64 ra, .i .i64 rb, .i .i64 rc, .rs 31 ps] 0), (4, .b t4), (7, .rs 3 t7), (9, .rs 3 t9), (11, .i .i64 t11), (12, .i .i64 t12), (13, .i .i64 t13)], m := [], nx := 0, nt := 104 }
noncomputable def ou9a (ra : Int) (rb : Int) (rc : Int) (ps : List (List AV)) (t4 : Bool) (t7 : List (List AV)) (t9 : List (List AV)) : T9a → Ex × St
  | .x0 t4' t11 t12 t13 => (.ret, o9a_0 ra rb rc ps t4 t7 t9 t4' t11 t12 t13)
  | .x1 t11 t12 t13 => (.ext 0, o9a_1 ra rb rc ps t4 t7 t9 t11 t12 t13)
noncomputable def r9a (ra : Int) (rb : Int) (rc : Int) (ps : List (List AV)) (t4 : Bool) (t7 : List (List AV)) (t9 : List (List AV)) (t11 : Int) (t12 : Int) (t13 : Int) : Option T9a := run (fun x => stp9a ra rb rc ps t4 t7 t9 x.t11 x.t12 x.t13) (⟨t11, t12, t13⟩ : S9a)
noncomputable def i9a_0 (ra : Int) (rb : Int) (rc : Int) (ps : List (List AV)) (t4 : Bool) (t7 : List (List AV)) (t9 : List (List AV)) (t11 : Int) (t12 : Int) (t13 : Int) : Bool := match r9a ra rb rc ps t4 t7 t9 t11 t12 t13 with
  | some (.x0 _ _ _ _) => true
  | _ => false
noncomputable def v9a_0_t4' (ra : Int) (rb : Int) (rc : Int) (ps : List (List AV)) (t4 : Bool) (t7 : List (List AV)) (t9 : List (List AV)) (t11 : Int) (t12 : Int) (t13 : Int) : Bool := match r9a ra rb rc ps t4 t7 t9 t11 t12 t13 with
  | some (.x0 t4' _ _ _) => t4'
  | _ => default
noncomputable def v9a_0_t11 (ra : Int) (rb : Int) (rc : Int) (ps : List (List AV)) (t4 : Bool) (t7 : List (List AV)) (t9 : List (List AV)) (t11 : Int) (t12 : Int) (t13 : Int) : Int := match r9a ra rb rc ps t4 t7 t9 t11 t12 t13 with
  | some (.x0 _ t11 _ _) => t11
  | _ => default
noncomputable def v9a_0_t12 (ra : Int) (rb : Int) (rc : Int) (ps : List (List AV)) (t4 : Bool) (t7 : List (List AV)) (t9 : List (List AV)) (t11 : Int) (t12 : Int) (t13 : Int) : Int := match r9a ra rb rc ps t4 t7 t9 t11 t12 t13 with
  | some (.x0 _ _ t12 _) => t12
  | _ => default
noncomputable def v9a_0_t13 (ra : Int) (rb : Int) (rc : Int) (ps : List (List AV)) (t4 : Bool) (t7 : List (List AV)) (t9 : List (List AV)) (t11 : Int) (t12 : Int) (t13 : Int) : Int := match r9a ra rb rc ps t4 t7 t9 t11 t12 t13 with
  | some (.x0 _ _ _ t13) => t13
  | _ => default
noncomputable def i9a_1 (ra : Int) (rb : Int) (rc : Int) (ps : List (List AV)) (t4 : Bool) (t7 : List (List AV)) (t9 : List (List AV)) (t11 : Int) (t12 : Int) (t13 : Int) : Bool := match r9a ra rb rc ps t4 t7 t9 t11 t12 t13 with
  | some (.x1 _ _ _) => true
  | _ => false
noncomputable def v9a_1_t11 (ra : Int) (rb : Int) (rc : Int) (ps : List (List AV)) (t4 : Bool) (t7 : List (List AV)) (t9 : List (List AV)) (t11 : Int) (t12 : Int) (t13 : Int) : Int := match r9a ra rb rc ps t4 t7 t9 t11 t12 t13 with
  | some (.x1 t11 _ _) => t11
  | _ => default
noncomputable def v9a_1_t12 (ra : Int) (rb : Int) (rc : Int) (ps : List (List AV)) (t4 : Bool) (t7 : List (List AV)) (t9 : List (List AV)) (t11 : Int) (t12 : Int) (t13 : Int) : Int := match r9a ra rb rc ps t4 t7 t9 t11 t12 t13 with
  | some (.x1 _ t12 _) => t12
  | _ => default
noncomputable def v9a_1_t13 (ra : Int) (rb : Int) (rc : Int) (ps : List (List AV)) (t4 : Bool) (t7 : List (List AV)) (t9 : List (List AV)) (t11 : Int) (t12 : Int) (t13 : Int) : Int := match r9a ra rb rc ps t4 t7 t9 t11 t12 t13 with
  | some (.x1 _ _ t13) => t13
  | _ => default
noncomputable def l9a (st : St) : Option (List (Bool × Ex × St)) := match normW Try.prog [(2, none), (4, none), (7, none), (9, none), (11, none), (12, none), (13, none)] 0 st with
  | some ([.rp [.int .i64, .int .i64, .int .i64, .sl 31] [.i .i64 ra, .i .i64 rb, .i .i64 rc, .rs 31 ps] 0, .b t4, .rs 3 t7, .rs 3 t9, .i .i64 t11, .i .i64 t12, .i .i64 t13], [], 0, 104) => some [(i9a_0 ra rb rc ps t4 t7 t9 t11 t12 t13, .ret, o9a_0 ra rb rc ps t4 t7 t9 (v9a_0_t4' ra rb rc ps t4 t7 t9 t11 t12 t13) (v9a_0_t11 ra rb rc ps t4 t7 t9 t11 t12 t13) (v9a_0_t12 ra rb rc ps t4 t7 t9 t11 t12 t13) (v9a_0_t13 ra rb rc ps t4 t7 t9 t11 t12 t13)), (i9a_1 ra rb rc ps t4 t7 t9 t11 t12 t13, .ext 0, o9a_1 ra rb rc ps t4 t7 t9 (v9a_1_t11 ra rb rc ps t4 t7 t9 t11 t12 t13) (v9a_1_t12 ra rb rc ps t4 t7 t9 t11 t12 t13) (v9a_1_t13 ra rb rc ps t4 t7 t9 t11 t12 t13))]
  | _ => none
noncomputable def L9 : LSpec := fun p st => match p with
  | [false, true, false, true, true, true, true, true, true, true, true] => l9a st
  | _ => none
theorem is9a_0 (ra : Int) (rb : Int) (rc : Int) (ps : List (List AV)) (t4 : Bool) (t7 : List (List AV)) (t9 : List (List AV)) (t11 : Int) (t12 : Int) (t13 : Int) (h : i9a_0 ra rb rc ps t4 t7 t9 t11 t12 t13 = true) : r9a ra rb rc ps t4 t7 t9 t11 t12 t13 = some (.x0 (v9a_0_t4' ra rb rc ps t4 t7 t9 t11 t12 t13) (v9a_0_t11 ra rb rc ps t4 t7 t9 t11 t12 t13) (v9a_0_t12 ra rb rc ps t4 t7 t9 t11 t12 t13) (v9a_0_t13 ra rb rc ps t4 t7 t9 t11 t12 t13)) := by
  unfold i9a_0 at h
  unfold v9a_0_t4' v9a_0_t11 v9a_0_t12 v9a_0_t13
  generalize r9a ra rb rc ps t4 t7 t9 t11 t12 t13 = r at h ⊢
  rcases r with _ | y
  · cases h
  · cases y <;> first | rfl | cases h
theorem is9a_1 (ra : Int) (rb : Int) (rc : Int) (ps : List (List AV)) (t4 : Bool) (t7 : List (List AV)) (t9 : List (List AV)) (t11 : Int) (t12 : Int) (t13 : Int) (h : i9a_1 ra rb rc ps t4 t7 t9 t11 t12 t13 = true) : r9a ra rb rc ps t4 t7 t9 t11 t12 t13 = some (.x1 (v9a_1_t11 ra rb rc ps t4 t7 t9 t11 t12 t13) (v9a_1_t12 ra rb rc ps t4 t7 t9 t11 t12 t13) (v9a_1_t13 ra rb rc ps t4 t7 t9 t11 t12 t13)) := by
  unfold i9a_1 at h
  unfold v9a_1_t11 v9a_1_t12 v9a_1_t13
  generalize r9a ra rb rc ps t4 t7 t9 t11 t12 t13 = r at h ⊢
  rcases r with _ | y
  · cases h
  · cases y <;> first | rfl | cases h
theorem round9a (ra : Int) (rb : Int) (rc : Int) (ps : List (List AV)) (t4 : Bool) (t7 : List (List AV)) (t9 : List (List AV)) (t11 : Int) (t12 : Int) (t13 : Int) : round Try.prog SR (ro 9) L9 lp9a [false, true, false, true, true, true, true, true, true, true, true] [(2, none), (4, none), (7, none), (9, none), (11, none), (12, none), (13, none)] 0 (s9a ra rb rc ps t4 t7 t9 t11 t12 t13) =
    cond (decide (t13 < (↑t9.length : Int))) (cond (inb t13 t9.length) (cond (decide (fI (t9.getD t13.toNat []) 0 < 0)) (some (.ret, o9a_0 ra rb rc ps t4 t7 t9 false t11 t12 t13)) (cond (inb t13 t9.length) (cond (decide (fI (t9.getD t13.toNat []) 0 > (↑t7.length : Int))) (some (.ret, o9a_0 ra rb rc ps t4 t7 t9 false t11 t12 t13)) (cond (inb t13 t9.length) (cond (inb t13 ps.length) (cond (inb t13 t9.length) (some (.nrm, s9a ra rb rc ps t4 t7 t9 (IntKind.i64.wrap (t11 + IntKind.i64.wrap (fI (t9.getD t13.toNat []) 0 * fI (ps.getD t13.toNat []) 1))) (IntKind.i64.wrap (t12 + fI (t9.getD t13.toNat []) 0)) (IntKind.i64.wrap (t13 + 1)))) (none)) (none)) (none))) (none))) (none)) (some (.ext 0, o9a_1 ra rb rc ps t4 t7 t9 t11 t12 t13)) := by kernel_rfl
theorem rnd9a (ra : Int) (rb : Int) (rc : Int) (ps : List (List AV)) (t4 : Bool) (t7 : List (List AV)) (t9 : List (List AV)) (x : S9a) : round Try.prog SR (ro 9) L9 lp9a [false, true, false, true, true, true, true, true, true, true, true] [(2, none), (4, none), (7, none), (9, none), (11, none), (12, none), (13, none)] 0 ((fun x => s9a ra rb rc ps t4 t7 t9 x.t11 x.t12 x.t13) x) = toR (fun x => s9a ra rb rc ps t4 t7 t9 x.t11 x.t12 x.t13) (ou9a ra rb rc ps t4 t7 t9) (stp9a ra rb rc ps t4 t7 t9 x.t11 x.t12 x.t13) := by
  refine (round9a _ _ _ _ _ _ _ _ _ _ ).trans ?_
  unfold stp9a
  simp only [toR_cond]
  rfl
theorem lok9a {st : St} {outs : List (Bool × Ex × St)} {e : Ex} {s : St} (hl : l9a st = some outs) (hch : Chosen outs e s) :
    ∃ keep nb, 0 ≤ nb ∧ LB Try.prog SR (ro 9) L9 lp9a [false, true, false, true, true, true, true, true, true, true, true] keep nb st e s := by
  unfold l9a at hl
  split at hl
  · rename_i ra rb rc ps t4 t7 t9 t11 t12 t13 hno
    cases hl
    have hno := normW_norm hno
    refine ⟨_, _, ?_, .enter hno ?_⟩
    · decide
    have main := fun y h => LB_run (x := (⟨t11, t12, t13⟩ : S9a)) (y := y) (nb := 0) (fun y => by cases y <;> simp [ou9a]) (rnd9a ra rb rc ps t4 t7 t9) h
    obtain ⟨x, hx, hg, rfl, rfl⟩ := chosen_any hch
    simp only [List.mem_cons, List.not_mem_nil, or_false] at hx
    rcases hx with rfl | rfl
    · exact main _ (is9a_0 ra rb rc ps t4 t7 t9 t11 t12 t13 hg)
    · exact main _ (is9a_1 ra rb rc ps t4 t7 t9 t11 t12 t13 hg)
  · cases hl
theorem L9_ok (q : Pl) (c : Code) (hq : locate c9 q.reverse = some (.loop c)) (st : St) (outs : List (Bool × Ex × St)) (e : Ex) (s : St) (hl : L9 q st = some outs) (hch : Chosen outs e s) :
    ∃ keep nb, 0 ≤ nb ∧ LB Try.prog SR (ro 9) L9 c q keep nb st e s := by
  unfold L9 at hl
  split at hl
  · have : locate c9 ([false, true, false, true, true, true, true, true, true, true, true] : Pl).reverse = some (.loop lp9a) := by kernel_rfl
    rw [this] at hq
    cases hq
    exact lok9a hl hch
  · cases hl
theorem lok9 : LOK Try.prog SR (ro 9) L9 0 false c9 [] :=
  lok_lo L9_ok c9 [] false (locate_nil _) (by kernel_rfl)
noncomputable def t9 (ra rb rc : Int) (ps : List (List AV)) (x : Int) : Tr ((Bool)) :=
  .cn (g18 ra rb rc ps) (.cn (w18_0 ra rb rc ps) (.lf (true)) (.cn (g39 ra rb rc ps x) (.cn (!w39_1 ra rb rc ps x) (.lf (true)) (.cn (g40 ra rb rc ps (w39_0 ra rb rc ps x)) (.cn (g34 ra rb rc ps (w40_0 ra rb rc ps (w39_0 ra rb rc ps x))) (.cn (w40_1 ra rb rc ps (w39_0 ra rb rc ps x) != 0) (.lf (false)) (.cn (w34_1 ra rb rc ps (w40_0 ra rb rc ps (w39_0 ra rb rc ps x)) != 0) (.lf (false)) (.cn ((↑(w34_0 ra rb rc ps (w40_0 ra rb rc ps (w39_0 ra rb rc ps x))).length : Int) != (↑ps.length : Int)) (.lf (false)) (.cn (i9a_0 ra rb rc ps false (w40_0 ra rb rc ps (w39_0 ra rb rc ps x)) (w34_0 ra rb rc ps (w40_0 ra rb rc ps (w39_0 ra rb rc ps x))) 0 0 0) (.lf (v9a_0_t4' ra rb rc ps false (w40_0 ra rb rc ps (w39_0 ra rb rc ps x)) (w34_0 ra rb rc ps (w40_0 ra rb rc ps (w39_0 ra rb rc ps x))) 0 0 0)) (.cn (i9a_1 ra rb rc ps false (w40_0 ra rb rc ps (w39_0 ra rb rc ps x)) (w34_0 ra rb rc ps (w40_0 ra rb rc ps (w39_0 ra rb rc ps x))) 0 0 0) (.cn (v9a_1_t11 ra rb rc ps false (w40_0 ra rb rc ps (w39_0 ra rb rc ps x)) (w34_0 ra rb rc ps (w40_0 ra rb rc ps (w39_0 ra rb rc ps x))) 0 0 0 == ra) (.cn (v9a_1_t12 ra rb rc ps false (w40_0 ra rb rc ps (w39_0 ra rb rc ps x)) (w34_0 ra rb rc ps (w40_0 ra rb rc ps (w39_0 ra rb rc ps x))) 0 0 0 == (↑(w40_0 ra rb rc ps (w39_0 ra rb rc ps x)).length : Int)) (.lf (true)) (.lf (false))) (.lf (false))) (.nn)))))) (.nn)) (.nn))) (.nn))) (.nn)
noncomputable def g9 (ra rb rc : Int) (ps : List (List AV)) (x : Int) : Bool := (t9 ra rb rc ps x).g
noncomputable def w9_0 (ra rb rc : Int) (ps : List (List AV)) (x : Int) : Bool := (t9 ra rb rc ps x).val
theorem eq9 (ra rb rc : Int) (ps : List (List AV)) (x : Int) : evF Try.prog SR (ro 9) L9 Try.f9 [.agg [.i .i64 ra, .i .i64 rb, .i .i64 rc, .rs 31 ps], .i .i64 x] = (t9 ra rb rc ps x).opt (fun (x : (Bool)) => (.b x : AV)) := by kernel_rfl
theorem con9 (ra rb rc : Int) (ps : List (List AV)) (x : Int) (h : g9 ra rb rc ps x = true) : Con Try.prog 9 [.agg [.i .i64 ra, .i .i64 rb, .i .i64 rc, .rs 31 ps], .i .i64 x] [] (.b (w9_0 ra rb rc ps x)) [] :=
  con_of SR_ok mixed Try.func9 (c := c9) rfl (names 9 _ Try.func9) lok9 ((eq9 ra rb rc ps x).trans (Tr.sound _ _ h))
noncomputable def e9 (args : List AV) (rows : List Blk) : Option (Bool × AV × List Blk) := match args, rows with
  | [.agg [.i .i64 ra, .i .i64 rb, .i .i64 rc, .rs 31 ps], .i .i64 x], [] => some (g9 ra rb rc ps x, .b (w9_0 ra rb rc ps x), [])
  | _, _ => none
theorem e9_ok (args : List AV) (rows : List Blk) (pre : Bool) (v : AV) (rows' : List Blk) (h : e9 args rows = some (pre, v, rows')) (hp : pre = true) : Con Try.prog 9 args rows v rows' := by
  unfold e9 at h
  split at h
  · cases h; exact con9 _ _ _ _ _ hp
  · cases h
-- SPEC 9
end Go.Proofs.Ytgifjphinkbcaaa

set_option maxRecDepth 100000
set_option linter.unusedVariables false
namespace Go.Proofs.Ytgifjphinkbcaaa
open Go Go.Ev
theorem ways_nat {ps : List (List AV)} {n b c : Nat} (hps : okPs ps) (hn : n ≤ 2000) (hb : b < 10) (hc : c < 10) (hw : w29_0 (n : Int) (b : Int) (c : Int) ps = 0) :
    g20 (n : Int) (b : Int) (c : Int) ps = true ∧ ((cnt ps c n b > 1000000000000000 ∧ w20_1 (n : Int) (b : Int) (c : Int) ps = 3 ∧ w20_0 (n : Int) (b : Int) (c : Int) ps = 0) ∨ (cnt ps c n b ≤ 1000000000000000 ∧ w20_1 (n : Int) (b : Int) (c : Int) ps = 0 ∧ w20_0 (n : Int) (b : Int) (c : Int) ps = cnt ps c n b)) := ways_val hps hn hb hc hw
theorem some_val (ra rb rc x : Int) (ps : List (List AV)) : g39 ra rb rc ps x = true ∧ (w39_1 ra rb rc ps x = false ∨ ∃ n b c : Nat, ra = (n : Int) ∧ rb = (b : Int) ∧ rc = (c : Int) ∧ n ≤ 2000 ∧ b < 10 ∧ c < 10 ∧ Fine ra rb rc ps ∧ w29_0 ra rb rc ps = 0 ∧ cnt ps c n b ≤ 1000000000000000 ∧ g20 ra rb rc ps = true ∧ w20_1 ra rb rc ps = 0 ∧ w20_0 ra rb rc ps = cnt ps c n b ∧ w39_1 ra rb rc ps x = true ∧ 0 ≤ w39_0 ra rb rc ps x ∧ w39_0 ra rb rc ps x < cnt ps c n b) := by
  by_cases h0 : w29_0 ra rb rc ps = 0
  · have hF := fine_of h0
    obtain ⟨n, b, c, rfl, rfl, rfl, hn, hb, hc⟩ := fine_nat hF
    obtain ⟨g1, g2⟩ := ways_nat hF.ps hn hb hc h0
    rcases g2 with ⟨h1, h2, h3⟩ | ⟨hs, h2, h3⟩
    · have hz : ((3 : Int) != 0) = true := by decide
      unfold g39 w39_1 t39
      rw [g1, h2, hz]
      exact ⟨rfl, .inl rfl⟩
    · have hz : ((0 : Int) != 0) = false := by decide
      by_cases h1 : cnt ps c n b < 1
      · unfold g39 w39_1 t39
        rw [g1, h2, h3, hz, decide_eq_true h1]
        exact ⟨rfl, .inl rfl⟩
      · by_cases hx : x < 0
        · unfold g39 w39_1 t39
          rw [g1, h2, h3, hz, decide_eq_false h1, decide_eq_true hx]
          exact ⟨rfl, .inl rfl⟩
        · have d : decide (cnt ps c n b = 0) = false := decide_eq_false (by omega)
          have e : g39 (n : Int) (b : Int) (c : Int) ps x = true ∧ w39_1 (n : Int) (b : Int) (c : Int) ps x = true ∧ w39_0 (n : Int) (b : Int) (c : Int) ps x = x.tmod (cnt ps c n b) := by
            unfold g39 w39_1 w39_0 t39
            rw [g1, h2, h3, hz, decide_eq_false h1, decide_eq_false hx, d]
            exact ⟨rfl, rfl, rfl⟩
          refine ⟨e.1, .inr ⟨n, b, c, rfl, rfl, rfl, hn, hb, hc, hF, h0, hs, g1, h2, h3, e.2.1, ?_, ?_⟩⟩
          · rw [e.2.2]
            exact Int.tmod_nonneg _ (by omega)
          · rw [e.2.2]
            exact Int.tmod_lt_of_pos _ (by omega)
  · obtain ⟨g1, g2⟩ := ways_err h0
    have hz : (w20_1 ra rb rc ps != 0) = true := by simpa using g2
    unfold g39 w39_1 t39
    rw [g1, hz]
    exact ⟨rfl, .inl rfl⟩
theorem rowAV_len (row : List Nat) : (rowAV row).length = row.length := by simp [rowAV]
theorem rowI_len (row : List Nat) : (rowI row).length = row.length := by simp [rowI]
theorem ranks_law (ra rb rc x : Int) (ps : List (List AV)) : g11 ra rb rc ps x = true ∧ w11_0 ra rb rc ps x = true := by
  obtain ⟨s1, s2⟩ := some_val ra rb rc x ps
  unfold g11 w11_0 t11
  rw [g18_true, s1]
  cases w18_0 ra rb rc ps with
  | true => exact ⟨rfl, rfl⟩
  | false =>
  rcases s2 with s2 | ⟨n, b, c, rfl, rfl, rfl, hn, hb, hc, hF, h0, hs, v1, v2, v3, s2, s3, s4⟩
  · rw [s2]
    exact ⟨rfl, rfl⟩
  rw [s2]
  generalize w39_0 (n : Int) (b : Int) (c : Int) ps x = k at s3 s4 ⊢
  obtain ⟨row, hr, ⟨a1, a2, a3⟩, _⟩ := nth_val hF.ps hn hb hc h0 hs ⟨s3, s4⟩
  have hlen := NthR_len hF.ps hr hs
  obtain ⟨q1, q2⟩ := NthR_fits hF.ps hr hs
  rw [a1, a2, a3]
  obtain ⟨⟨f1, f2, f3⟩, _⟩ := fitsE_val (ws := rowAV row) hF h0 (by rw [rowAV_len]; omega)
  obtain ⟨⟨r1, r2, r3⟩, _⟩ := rank_val (ws := rowAV row) hF hn hb hc h0 hs (by rw [rowAV_len]; omega)
  rw [nums_rowAV, q1] at f3 r2 r3
  rw [q2] at r3
  have e0 : ((0 : Int) != 0) = false := by decide
  have e1 : ((0 : Int) == 0) = true := by decide
  have e3 : (k != k) = false := by simp
  have ew : IntKind.i64.wrap (k + 1) = k + 1 := wrap64 (by omega) (by omega)
  rw [f1, f2, f3, r1, r2, r3, if_pos rfl, if_pos rfl, e0, e3, v1, v2, v3, ew]
  by_cases hl : k + 1 = cnt ps c n b
  · obtain ⟨⟨b1, b2, b3⟩, _⟩ := nth_out (x := k + 1) hF.ps hn hb hc h0 hs (by omega)
    have e4 : (k + 1 == cnt ps c n b) = true := by simpa using hl
    rw [b1, b2, b3, e4]
    exact ⟨rfl, rfl⟩
  · obtain ⟨row', hr', ⟨b1, b2, b3⟩, _⟩ := nth_val (x := k + 1) hF.ps hn hb hc h0 hs ⟨by omega, by omega⟩
    have hlen' := NthR_len hF.ps hr' hs
    have e4 : (k + 1 == cnt ps c n b) = false := by simpa using hl
    obtain ⟨c1, c2⟩ := before_val (xs := rowAV row) (ys := rowAV row') (by rw [rowAV_len]; omega) (by rw [rowAV_len]; omega)
    rw [nums_rowAV, nums_rowAV, NthR_ahead hF.ps hr hs hr' (by omega)] at c2
    rw [b1, b2, b3, c1, c2, e4]
    exact ⟨rfl, rfl⟩
theorem ridgeRanks_law (avs : List AV) (h : TyArgs Try.prog Try.f11.params.toList avs) : Con Try.prog 11 avs [] (.b true) [] := by
  obtain ⟨a0, r0, rfl, h0, h⟩ := tyArgs_cons h
  obtain ⟨a1, r1, rfl, h1, h⟩ := tyArgs_cons h
  obtain rfl := tyArgs_nil h
  obtain ⟨ra, rb, rc, ps, rfl, _⟩ := ridge_of h0
  obtain ⟨x, rfl, _⟩ := int_of h1
  obtain ⟨h1, h2⟩ := ranks_law ra rb rc x ps
  have := con11 ra rb rc ps x h1
  rw [h2] at this
  exact this
/-! ### RidgeNeeds -/
theorem sumTo_le {f g : Nat → Int} : ∀ {k : Nat}, (∀ j, j < k → f j ≤ g j) → sumTo f k ≤ sumTo g k
  | 0, _ => Int.le_refl _
  | k + 1, h => by
    have h1 := sumTo_le (k := k) (fun j hj => h j (by omega))
    have h2 := h k (by omega)
    show sumTo f k + f k ≤ sumTo g k + g k
    omega
theorem sumTo_nonneg {f : Nat → Int} : ∀ {k : Nat}, (∀ j, j < k → 0 ≤ f j) → 0 ≤ sumTo f k
  | 0, _ => Int.le_refl _
  | k + 1, h => by
    have h1 := sumTo_nonneg (k := k) (fun j hj => h j (by omega))
    have h2 := h k (by omega)
    show 0 ≤ sumTo f k + f k
    omega
theorem loop9 {ra rb rc : Int} {ps T7 : List (List AV)} {ks : List Int} (hps : okPs ps) (h7 : (T7.length : Int) = ks.length) (hk : ks.length ≤ 2000) :
    r9a ra rb rc ps false T7 (needL ps ks) 0 0 0 = some (.x1 (sumTo (fun j => cntIn j ks * (wd ps j : Int)) ps.length) (sumTo (fun j => cntIn j ks) ps.length) (ps.length : Int)) := by
  have hl := hps.1
  have hb : ∀ j, 0 ≤ cntIn j ks ∧ cntIn j ks ≤ 2000 := fun j => by
    have := cntIn_le j ks
    omega
  have hbw : ∀ j, j < ps.length → 0 ≤ cntIn j ks * (wd ps j : Int) ∧ cntIn j ks * (wd ps j : Int) ≤ 4000000 := fun j hj => by
    obtain ⟨p1, p2, p3, p4, p5, p6, p7⟩ := pc_nat hps hj
    obtain ⟨c1, c2⟩ := hb j
    refine ⟨Int.mul_nonneg c1 (by omega), ?_⟩
    have : cntIn j ks * (wd ps j : Int) ≤ 2000 * 2000 := Int.mul_le_mul c2 (by omega) (by omega) (by omega)
    omega
  have bound : ∀ k, k ≤ ps.length → (0 ≤ sumTo (fun j => cntIn j ks * (wd ps j : Int)) k ∧ sumTo (fun j => cntIn j ks * (wd ps j : Int)) k ≤ 4000000 * k) ∧ 0 ≤ sumTo (fun j => cntIn j ks) k ∧ sumTo (fun j => cntIn j ks) k ≤ 2000 * k := by
    intro k
    induction k with
    | zero => exact fun _ => ⟨⟨Int.le_refl _, Int.le_refl _⟩, Int.le_refl _, Int.le_refl _⟩
    | succ k ih =>
      intro hk
      have i := ih (by omega)
      have c1 := hb k
      have c2 := hbw k (by omega)
      have u1 : sumTo (fun j => cntIn j ks * (wd ps j : Int)) (k + 1) = sumTo (fun j => cntIn j ks * (wd ps j : Int)) k + cntIn k ks * (wd ps k : Int) := rfl
      have u2 : sumTo (fun j => cntIn j ks) (k + 1) = sumTo (fun j => cntIn j ks) k + cntIn k ks := rfl
      rw [u1, u2]
      omega
  have hn : (needL ps ks).length = ps.length := ones_len _ _
  have run : ∃ y, r9a ra rb rc ps false T7 (needL ps ks) 0 0 0 = some y ∧ y = .x1 (sumTo (fun j => cntIn j ks * (wd ps j : Int)) ps.length) (sumTo (fun j => cntIn j ks) ps.length) (ps.length : Int) := by
    unfold r9a
    refine run_for (S := Int × Int) ps.length (fun k s => (⟨s.1, s.2, (k : Int)⟩ : S9a)) (fun k s => s.1 = sumTo (fun j => cntIn j ks * (wd ps j : Int)) k ∧ s.2 = sumTo (fun j => cntIn j ks) k) (fun k s (y : T9a) => y = .x1 (sumTo (fun j => cntIn j ks * (wd ps j : Int)) ps.length) (sumTo (fun j => cntIn j ks) ps.length) (ps.length : Int)) (fun k s hk hi => ?_) (fun s hi => ?_) 0 (0, 0) (Nat.zero_le _) ⟨rfl, rfl⟩
    · obtain ⟨s, t⟩ := s
      obtain ⟨rfl, rfl⟩ := hi
      left
      obtain ⟨p1, p2, p3, p4, p5, p6, p7⟩ := pc_nat hps hk
      have c1 := hb k
      have c2 := hbw k hk
      have bb := bound k (by omega)
      have e : fI ((needL ps ks).getD k []) 0 = cntIn k ks := by
        unfold needL
        rw [ones_get hk]; rfl
      have d1 : decide (cntIn k ks < 0) = false := decide_eq_false (by omega)
      have d2 : decide (cntIn k ks > (T7.length : Int)) = false := by
        have := cntIn_le k ks
        exact decide_eq_false (by omega)
      refine ⟨(sumTo (fun j => cntIn j ks * (wd ps j : Int)) (k + 1), sumTo (fun j => cntIn j ks) (k + 1)), ?_, ⟨rfl, rfl⟩, fun y hy => hy⟩
      show stp9a ra rb rc ps false T7 (needL ps ks) (sumTo (fun j => cntIn j ks * (wd ps j : Int)) k) (sumTo (fun j => cntIn j ks) k) (k : Int) = _
      unfold stp9a
      rw [Int.toNat_natCast, e, hn, p1, d1, d2, lt_true hk, inb_true hk, wrap64 (x := cntIn k ks * (wd ps k : Int)) (by omega) (by omega), wrap64 (by omega) (by omega), wrap64 (by omega) (by omega), wrap_succ (by omega)]
      rfl
    · obtain ⟨s, t⟩ := s
      obtain ⟨rfl, rfl⟩ := hi
      refine ⟨_, ?_, rfl⟩
      show stp9a ra rb rc ps false T7 (needL ps ks) (sumTo (fun j => cntIn j ks * (wd ps j : Int)) ps.length) (sumTo (fun j => cntIn j ks) ps.length) (ps.length : Int) = _
      unfold stp9a
      rw [hn, lt_false]; rfl
  obtain ⟨y, h1, h2⟩ := run
  rw [h1, h2]
theorem needs_law (ra rb rc x : Int) (ps : List (List AV)) : g9 ra rb rc ps x = true ∧ w9_0 ra rb rc ps x = true := by
  obtain ⟨s1, s2⟩ := some_val ra rb rc x ps
  unfold g9 w9_0 t9
  rw [g18_true, s1]
  cases w18_0 ra rb rc ps with
  | true => exact ⟨rfl, rfl⟩
  | false =>
  rcases s2 with s2 | ⟨n, b, c, rfl, rfl, rfl, hn, hb, hc, hF, h0, hs, v1, v2, v3, s2, s3, s4⟩
  · rw [s2]
    exact ⟨rfl, rfl⟩
  rw [s2]
  generalize w39_0 (n : Int) (b : Int) (c : Int) ps x = k at s3 s4 ⊢
  obtain ⟨row, hr, ⟨a1, a2, a3⟩, _⟩ := nth_val hF.ps hn hb hc h0 hs ⟨s3, s4⟩
  have hlen := NthR_len hF.ps hr hs
  obtain ⟨q1, q2⟩ := NthR_fits hF.ps hr hs
  rw [a1, a2, a3]
  obtain ⟨n1, n2, n3⟩ := needs_val (ws := rowAV row) hF h0 (by rw [rowAV_len]; omega)
  rw [nums_rowAV, q1] at n2 n3
  rw [if_pos rfl] at n2 n3
  have e0 : ((0 : Int) != 0) = false := by decide
  have e5 : (((needL ps (rowI row)).length : Int) != (ps.length : Int)) = false := by
    unfold needL
    rw [ones_len]
    simp
  rw [n1, n2, n3, e0, e5]
  have hlo := loop9 (ra := (n : Int)) (rb := (b : Int)) (rc := (c : Int)) (T7 := rowAV row) (ks := rowI row) hF.ps (by rw [rowAV_len, rowI_len]) (by rw [rowI_len]; omega)
  have hall := fitsL_all q1
  have t1 : sumTo (fun j => cntIn j (rowI row) * (wd ps j : Int)) ps.length = (n : Int) := by
    rw [need_sum (fun j => (wd ps j : Int)) hall, ← longL_sum]
    exact (fitsL_long hF.ps q1).1
  have t2 : sumTo (fun j => cntIn j (rowI row)) ps.length = ((rowAV row).length : Int) := by
    have := need_sum (fun _ => 1) hall
    simp only [Int.mul_one] at this
    rw [this, ones_sum, rowI_len, rowAV_len]
  unfold i9a_0 i9a_1 v9a_0_t4' v9a_1_t11 v9a_1_t12
  rw [hlo]
  simp only [t1, t2]
  have e6 : ∀ b : Int, (b == b) = true := by simp
  rw [e6, e6]
  exact ⟨rfl, rfl⟩
theorem ridgeNeeds_law (avs : List AV) (h : TyArgs Try.prog Try.f9.params.toList avs) : Con Try.prog 9 avs [] (.b true) [] := by
  obtain ⟨a0, r0, rfl, h0, h⟩ := tyArgs_cons h
  obtain ⟨a1, r1, rfl, h1, h⟩ := tyArgs_cons h
  obtain rfl := tyArgs_nil h
  obtain ⟨ra, rb, rc, ps, rfl, _⟩ := ridge_of h0
  obtain ⟨x, rfl, _⟩ := int_of h1
  obtain ⟨h1, h2⟩ := needs_law ra rb rc x ps
  have := con9 ra rb rc ps x h1
  rw [h2] at this
  exact this
end Go.Proofs.Ytgifjphinkbcaaa

set_option maxRecDepth 100000
set_option maxHeartbeats 1000000
set_option linter.unusedVariables false
namespace Go.Proofs.Ytgifjphinkbcaaa
open Go Go.Ev

/-! ### RidgeImage -/
noncomputable def c6 : Code := match Try.f6.body with | some c => c | _ => .skip
noncomputable def lp6a : Code := loopAt c6 [true, true, true, false, true, false]
noncomputable def s6a (ws : List (List AV)) (ra : Int) (rb : Int) (rc : Int) (ps : List (List AV)) (t4 : Bool) (t5 : List (List AV)) (t6 : Int) : St :=
  { t := [(1, .rs 3 ws), (2, .rp [.int .i64, .int .i64, .int .i64, .sl 31] [.i .i64 ra, .i .i64 rb, .i .i64 rc, .rs 31 ps] 0), (4, .b t4), (5, .gv 0 3 t5), (6, .i .i64 t6)], m := [(0, .fr 3)], nx := 1, nt := 107 }
structure S6a where
  t5 : List (List AV)
  t6 : Int
inductive T6a where
  | x0 (t4' : Bool) (t5 : List (List AV)) (t6 : Int)
  | x1 (t5 : List (List AV)) (t6 : Int)
noncomputable def stp6a (ws : List (List AV)) (ra : Int) (rb : Int) (rc : Int) (ps : List (List AV)) (t4 : Bool) (t5 : List (List AV)) (t6 : Int) : Lp S6a T6a :=
  cond (decide (t6 ≥ 0)) (cond (inb t6 ws.length) (cond (decide (fI (ws.getD t6.toNat []) 0 < 0)) (.out (.x0 true t5 t6)) (cond (inb t6 ws.length) (cond (decide (fI (ws.getD t6.toNat []) 0 ≥ (↑ps.length : Int))) (.out (.x0 true t5 t6)) (cond (inb t6 ws.length) (cond (inb (fI (ws.getD t6.toNat []) 0) ps.length) (cond ((t5.length + [[AV.i IntKind.i64 (fI (ps.getD (fI (ws.getD t6.toNat []) 0).toNat []) 4)]].length).ble 9223372036854775807 && true) (cond (((t5.length + [[AV.i IntKind.i64 (fI (ps.getD (fI (ws.getD t6.toNat []) 0).toNat []) 4)]].length) * 8).ble 140737488355328) (.go ⟨t5 ++ [[AV.i IntKind.i64 (fI (ps.getD (fI (ws.getD t6.toNat []) 0).toNat []) 4)]], IntKind.i64.wrap (t6 - 1)⟩) (.bad)) (.bad)) (.bad)) (.bad))) (.bad))) (.bad)) (.out (.x1 t5 t6))
noncomputable def o6a_0 (ws : List (List AV)) (ra : Int) (rb : Int) (rc : Int) (ps : List (List AV)) (t4 : Bool) (t4' : Bool) (t5 : List (List AV)) (t6 : Int) : St :=
  { t := [(1, .rs 3 ws), (2, .rp [.int .i64, .int .i64, .int .i64, .sl 31] [.i .i64 ra, .i .i64 rb, .i .i64 rc, .rs 31 ps] 0), (4, .b t4'), (5, .gv 0 3 t5), (6, .i .i64 t6)], m := [(0, .fr 3)], nx := 1, nt := 107 }
noncomputable def o6a_1 (ws : List (List AV)) (ra : Int) (rb : Int) (rc : Int) (ps : List (List AV)) (t4 : Bool) (t5 : List (List AV)) (t6 : Int) : St :=
  { t := [(1, .rs 3 ws), (2, .rp [.int .i64, .int .i64, .int .i64, .sl 31] [.i .i64 ra, .i .i64 rb, .i .i64 rc, .rs 31 ps] 0), (4, .b t4), (5, .gv 0 3 t5), (6, .i .i64 t6)], m := [(0, .fr 3)], nx := 1, nt := 107 }
noncomputable def ou6a (ws : List (List AV)) (ra : Int) (rb : Int) (rc : Int) (ps : List (List AV)) (t4 : Bool) : T6a → Ex × St
  | .x0 t4' t5 t6 => (.ret, o6a_0 ws ra rb rc ps t4 t4' t5 t6)
  | .x1 t5 t6 => (.ext 0, o6a_1 ws ra rb rc ps t4 t5 t6)
noncomputable def r6a (ws : List (List AV)) (ra : Int) (rb : Int) (rc : Int) (ps : List (List AV)) (t4 : Bool) (t5 : List (List AV)) (t6 : Int) : Option T6a := run (fun x => stp6a ws ra rb rc ps t4 x.t5 x.t6) (⟨t5, t6⟩ : S6a)
noncomputable def i6a_0 (ws : List (List AV)) (ra : Int) (rb : Int) (rc : Int) (ps : List (List AV)) (t4 : Bool) (t5 : List (List AV)) (t6 : Int) : Bool := match r6a ws ra rb rc ps t4 t5 t6 with
  | some (.x0 _ _ _) => true
  | _ => false
noncomputable def v6a_0_t4' (ws : List (List AV)) (ra : Int) (rb : Int) (rc : Int) (ps : List (List AV)) (t4 : Bool) (t5 : List (List AV)) (t6 : Int) : Bool := match r6a ws ra rb rc ps t4 t5 t6 with
  | some (.x0 t4' _ _) => t4'
  | _ => default
noncomputable def v6a_0_t5 (ws : List (List AV)) (ra : Int) (rb : Int) (rc : Int) (ps : List (List AV)) (t4 : Bool) (t5 : List (List AV)) (t6 : Int) : List (List AV) := match r6a ws ra rb rc ps t4 t5 t6 with
  | some (.x0 _ t5 _) => t5
  | _ => default
noncomputable def v6a_0_t6 (ws : List (List AV)) (ra : Int) (rb : Int) (rc : Int) (ps : List (List AV)) (t4 : Bool) (t5 : List (List AV)) (t6 : Int) : Int := match r6a ws ra rb rc ps t4 t5 t6 with
  | some (.x0 _ _ t6) => t6
  | _ => default
noncomputable def i6a_1 (ws : List (List AV)) (ra : Int) (rb : Int) (rc : Int) (ps : List (List AV)) (t4 : Bool) (t5 : List (List AV)) (t6 : Int) : Bool := match r6a ws ra rb rc ps t4 t5 t6 with
  | some (.x1 _ _) => true
  | _ => false
noncomputable def v6a_1_t5 (ws : List (List AV)) (ra : Int) (rb : Int) (rc : Int) (ps : List (List AV)) (t4 : Bool) (t5 : List (List AV)) (t6 : Int) : List (List AV) := match r6a ws ra rb rc ps t4 t5 t6 with
  | some (.x1 t5 _) => t5
  | _ => default
noncomputable def v6a_1_t6 (ws : List (List AV)) (ra : Int) (rb : Int) (rc : Int) (ps : List (List AV)) (t4 : Bool) (t5 : List (List AV)) (t6 : Int) : Int := match r6a ws ra rb rc ps t4 t5 t6 with
  | some (.x1 _ t6) => t6
  | _ => default
noncomputable def l6a (st : St) : Option (List (Bool × Ex × St)) := match normW Try.prog [(1, none), (2, none), (4, none), (5, some 3), (6, none)] 0 st with
  | some ([.rs 3 ws, .rp [.int .i64, .int .i64, .int .i64, .sl 31] [.i .i64 ra, .i .i64 rb, .i .i64 rc, .rs 31 ps] 0, .b t4, .gv 0 3 t5, .i .i64 t6], [(0, .fr 3)], 1, 107) => some [(i6a_0 ws ra rb rc ps t4 t5 t6, .ret, o6a_0 ws ra rb rc ps t4 (v6a_0_t4' ws ra rb rc ps t4 t5 t6) (v6a_0_t5 ws ra rb rc ps t4 t5 t6) (v6a_0_t6 ws ra rb rc ps t4 t5 t6)), (i6a_1 ws ra rb rc ps t4 t5 t6, .ext 0, o6a_1 ws ra rb rc ps t4 (v6a_1_t5 ws ra rb rc ps t4 t5 t6) (v6a_1_t6 ws ra rb rc ps t4 t5 t6))]
  | _ => none
noncomputable def L6 : LSpec := fun p st => match p with
  | [false, true, false, true, true, true] => l6a st
  | _ => none
theorem is6a_0 (ws : List (List AV)) (ra : Int) (rb : Int) (rc : Int) (ps : List (List AV)) (t4 : Bool) (t5 : List (List AV)) (t6 : Int) (h : i6a_0 ws ra rb rc ps t4 t5 t6 = true) : r6a ws ra rb rc ps t4 t5 t6 = some (.x0 (v6a_0_t4' ws ra rb rc ps t4 t5 t6) (v6a_0_t5 ws ra rb rc ps t4 t5 t6) (v6a_0_t6 ws ra rb rc ps t4 t5 t6)) := by
  unfold i6a_0 at h
  unfold v6a_0_t4' v6a_0_t5 v6a_0_t6
  generalize r6a ws ra rb rc ps t4 t5 t6 = r at h ⊢
  rcases r with _ | y
  · cases h
  · cases y <;> first | rfl | cases h
theorem is6a_1 (ws : List (List AV)) (ra : Int) (rb : Int) (rc : Int) (ps : List (List AV)) (t4 : Bool) (t5 : List (List AV)) (t6 : Int) (h : i6a_1 ws ra rb rc ps t4 t5 t6 = true) : r6a ws ra rb rc ps t4 t5 t6 = some (.x1 (v6a_1_t5 ws ra rb rc ps t4 t5 t6) (v6a_1_t6 ws ra rb rc ps t4 t5 t6)) := by
  unfold i6a_1 at h
  unfold v6a_1_t5 v6a_1_t6
  generalize r6a ws ra rb rc ps t4 t5 t6 = r at h ⊢
  rcases r with _ | y
  · cases h
  · cases y <;> first | rfl | cases h
theorem round6a (ws : List (List AV)) (ra : Int) (rb : Int) (rc : Int) (ps : List (List AV)) (t4 : Bool) (t5 : List (List AV)) (t6 : Int) : round Try.prog SR (ro 6) L6 lp6a [false, true, false, true, true, true] [(1, none), (2, none), (4, none), (5, some 3), (6, none)] 0 (s6a ws ra rb rc ps t4 t5 t6) =
    cond (decide (t6 ≥ 0)) (cond (inb t6 ws.length) (cond (decide (fI (ws.getD t6.toNat []) 0 < 0)) (some (.ret, o6a_0 ws ra rb rc ps t4 true t5 t6)) (cond (inb t6 ws.length) (cond (decide (fI (ws.getD t6.toNat []) 0 ≥ (↑ps.length : Int))) (some (.ret, o6a_0 ws ra rb rc ps t4 true t5 t6)) (cond (inb t6 ws.length) (cond (inb (fI (ws.getD t6.toNat []) 0) ps.length) (cond ((t5.length + [[AV.i IntKind.i64 (fI (ps.getD (fI (ws.getD t6.toNat []) 0).toNat []) 4)]].length).ble 9223372036854775807 && true) (cond (((t5.length + [[AV.i IntKind.i64 (fI (ps.getD (fI (ws.getD t6.toNat []) 0).toNat []) 4)]].length) * 8).ble 140737488355328) (some (.nrm, s6a ws ra rb rc ps t4 (t5 ++ [[AV.i IntKind.i64 (fI (ps.getD (fI (ws.getD t6.toNat []) 0).toNat []) 4)]]) (IntKind.i64.wrap (t6 - 1)))) (none)) (none)) (none)) (none))) (none))) (none)) (some (.ext 0, o6a_1 ws ra rb rc ps t4 t5 t6)) := by kernel_rfl
theorem rnd6a (ws : List (List AV)) (ra : Int) (rb : Int) (rc : Int) (ps : List (List AV)) (t4 : Bool) (x : S6a) : round Try.prog SR (ro 6) L6 lp6a [false, true, false, true, true, true] [(1, none), (2, none), (4, none), (5, some 3), (6, none)] 0 ((fun x => s6a ws ra rb rc ps t4 x.t5 x.t6) x) = toR (fun x => s6a ws ra rb rc ps t4 x.t5 x.t6) (ou6a ws ra rb rc ps t4) (stp6a ws ra rb rc ps t4 x.t5 x.t6) := by
  refine (round6a _ _ _ _ _ _ _ _ ).trans ?_
  unfold stp6a
  simp only [toR_cond]
  rfl
theorem lok6a {st : St} {outs : List (Bool × Ex × St)} {e : Ex} {s : St} (hl : l6a st = some outs) (hch : Chosen outs e s) :
    ∃ keep nb, 0 ≤ nb ∧ LB Try.prog SR (ro 6) L6 lp6a [false, true, false, true, true, true] keep nb st e s := by
  unfold l6a at hl
  split at hl
  · rename_i ws ra rb rc ps t4 t5 t6 hno
    cases hl
    have hno := normW_norm hno
    refine ⟨_, _, ?_, .enter hno ?_⟩
    · decide
    have main := fun y h => LB_run (x := (⟨t5, t6⟩ : S6a)) (y := y) (nb := 0) (fun y => by cases y <;> simp [ou6a]) (rnd6a ws ra rb rc ps t4) h
    obtain ⟨x, hx, hg, rfl, rfl⟩ := chosen_any hch
    simp only [List.mem_cons, List.not_mem_nil, or_false] at hx
    rcases hx with rfl | rfl
    · exact main _ (is6a_0 ws ra rb rc ps t4 t5 t6 hg)
    · exact main _ (is6a_1 ws ra rb rc ps t4 t5 t6 hg)
  · cases hl
theorem L6_ok (q : Pl) (c : Code) (hq : locate c6 q.reverse = some (.loop c)) (st : St) (outs : List (Bool × Ex × St)) (e : Ex) (s : St) (hl : L6 q st = some outs) (hch : Chosen outs e s) :
    ∃ keep nb, 0 ≤ nb ∧ LB Try.prog SR (ro 6) L6 c q keep nb st e s := by
  unfold L6 at hl
  split at hl
  · have : locate c6 ([false, true, false, true, true, true] : Pl).reverse = some (.loop lp6a) := by kernel_rfl
    rw [this] at hq
    cases hq
    exact lok6a hl hch
  · cases hl
theorem lok6 : LOK Try.prog SR (ro 6) L6 0 false c6 [] :=
  lok_lo L6_ok c6 [] false (locate_nil _) (by kernel_rfl)
noncomputable def t6 (ra rb rc : Int) (ps : List (List AV)) (ws : List (List AV)) : Tr ((Bool)) :=
  .cn (g18 ra rb rc ps) (.cn (w18_0 ra rb rc ps) (.lf (true)) (.cn (decide ((↑ws.length : Int) > 400)) (.lf (true)) (.cn (g29 ra rb rc ps) (.cn (w29_0 ra rb rc ps != 0) (.lf (true)) (.cn (i6a_0 ws ra rb rc ps false [] (IntKind.i64.wrap ((↑ws.length : Int) - 1))) (.lf (v6a_0_t4' ws ra rb rc ps false [] (IntKind.i64.wrap ((↑ws.length : Int) - 1)))) (.cn (i6a_1 ws ra rb rc ps false [] (IntKind.i64.wrap ((↑ws.length : Int) - 1))) (.cn (g30 ra rb rc ps ws) (.cn (g30 (w31_0 ra rb rc ps) (w31_1 ra rb rc ps) (w31_2 ra rb rc ps) (w31_3 ra rb rc ps) (v6a_1_t5 ws ra rb rc ps false [] (IntKind.i64.wrap ((↑ws.length : Int) - 1)))) (.cn (!w30_0 ra rb rc ps ws == w30_0 (w31_0 ra rb rc ps) (w31_1 ra rb rc ps) (w31_2 ra rb rc ps) (w31_3 ra rb rc ps) (v6a_1_t5 ws ra rb rc ps false [] (IntKind.i64.wrap ((↑ws.length : Int) - 1)))) (.lf (false)) (.cn (w30_1 ra rb rc ps ws != 0) (.lf (false)) (.cn (w30_1 (w31_0 ra rb rc ps) (w31_1 ra rb rc ps) (w31_2 ra rb rc ps) (w31_3 ra rb rc ps) (v6a_1_t5 ws ra rb rc ps false [] (IntKind.i64.wrap ((↑ws.length : Int) - 1))) != 0) (.lf (false)) (.cn (g20 ra rb rc ps) (.cn (g20 (w31_0 ra rb rc ps) (w31_1 ra rb rc ps) (w31_2 ra rb rc ps) (w31_3 ra rb rc ps)) (.cn (w20_0 ra rb rc ps == w20_0 (w31_0 ra rb rc ps) (w31_1 ra rb rc ps) (w31_2 ra rb rc ps) (w31_3 ra rb rc ps)) (.cn (w20_1 ra rb rc ps == w20_1 (w31_0 ra rb rc ps) (w31_1 ra rb rc ps) (w31_2 ra rb rc ps) (w31_3 ra rb rc ps)) (.lf (true)) (.lf (false))) (.lf (false))) (.nn)) (.nn))))) (.nn)) (.nn)) (.nn)))) (.nn)))) (.nn)
noncomputable def g6 (ra rb rc : Int) (ps : List (List AV)) (ws : List (List AV)) : Bool := (t6 ra rb rc ps ws).g
noncomputable def w6_0 (ra rb rc : Int) (ps : List (List AV)) (ws : List (List AV)) : Bool := (t6 ra rb rc ps ws).val
theorem eq6 (ra rb rc : Int) (ps : List (List AV)) (ws : List (List AV)) : evF Try.prog SR (ro 6) L6 Try.f6 [.agg [.i .i64 ra, .i .i64 rb, .i .i64 rc, .rs 31 ps], .rs 3 ws] = (t6 ra rb rc ps ws).opt (fun (x : (Bool)) => (.b x : AV)) := by kernel_rfl
theorem con6 (ra rb rc : Int) (ps : List (List AV)) (ws : List (List AV)) (h : g6 ra rb rc ps ws = true) : Con Try.prog 6 [.agg [.i .i64 ra, .i .i64 rb, .i .i64 rc, .rs 31 ps], .rs 3 ws] [] (.b (w6_0 ra rb rc ps ws)) [] :=
  con_of SR_ok mixed Try.func6 (c := c6) rfl (names 6 _ Try.func6) lok6 ((eq6 ra rb rc ps ws).trans (Tr.sound _ _ h))
noncomputable def e6 (args : List AV) (rows : List Blk) : Option (Bool × AV × List Blk) := match args, rows with
  | [.agg [.i .i64 ra, .i .i64 rb, .i .i64 rc, .rs 31 ps], .rs 3 ws], [] => some (g6 ra rb rc ps ws, .b (w6_0 ra rb rc ps ws), [])
  | _, _ => none
theorem e6_ok (args : List AV) (rows : List Blk) (pre : Bool) (v : AV) (rows' : List Blk) (h : e6 args rows = some (pre, v, rows')) (hp : pre = true) : Con Try.prog 6 args rows v rows' := by
  unfold e6 at h
  split at h
  · cases h; exact con6 _ _ _ _ _ hp
  · cases h
-- SPEC 6
end Go.Proofs.Ytgifjphinkbcaaa

set_option maxRecDepth 100000
set_option linter.unusedVariables false
namespace Go.Proofs.Ytgifjphinkbcaaa
open Go Go.Ev
/-- Check looks at the ends for their range alone. -/
theorem check_ends {ra rb rc rb' rc' : Int} {ps : List (List AV)} (h0 : w29_0 ra rb rc ps = 0) (h1 : 0 ≤ rb') (h2 : rb' ≤ 9) (h3 : 0 ≤ rc') (h4 : rc' ≤ 9) : w29_0 ra rb' rc' ps = 0 := by
  have hF := fine_of h0
  have hl := hF.ps.1
  have ha : (decide (0 ≤ ra) && decide (ra ≤ 2000)) = true := by have := hF.a; simp [this]
  have hb : (decide (0 ≤ rb) && decide (rb ≤ 9)) = true := by have := hF.b; simp [this]
  have hc : (decide (0 ≤ rc) && decide (rc ≤ 9)) = true := by have := hF.c; simp [this]
  have hb' : (decide (0 ≤ rb') && decide (rb' ≤ 9)) = true := by simp [h1, h2]
  have hc' : (decide (0 ≤ rc') && decide (rc' ≤ 9)) = true := by simp [h3, h4]
  have h : decide ((ps.length : Int) > 10) = false := decide_eq_false (by omega)
  obtain ⟨y, hy, _, _⟩ := loopA ra rb rc hl
  obtain ⟨z, hz, _⟩ := loopB ra rb rc hl
  have hy' : r29a ra rb' rc' ps 0 ps (ps.length : Int) 0 [] = some y := hy
  have hz' : r29b ra rb' rc' ps 0 ps (ps.length : Int) 0 = some z := hz
  have val : w29_0 ra rb' rc' ps = w29_0 ra rb rc ps := by
    unfold w29_0 t29
    simp only [g55_true, w55_eq, ha, hb, hc, hb', hc', h, Tr.val, cond_true, cond_false, Bool.not_true]
    unfold i29a_0 i29a_1 i29b_0 i29b_1 v29a_0_t2' v29b_0_t2'
    rw [hy, hz, hy', hz']
  rw [val, h0]
def imAV (l : List Int) : List (List AV) := l.map fun v => [.i .i64 v]
theorem nums_imAV (l : List Int) : nums (imAV l) = l := by
  unfold nums imAV
  rw [List.map_map]
  exact List.map_id' l
theorem imgL_len (ps : List (List AV)) : ∀ l : List Int, (imgL ps l).length = l.length
  | [] => rfl
  | k :: ks => by
    show (imgL ps ks ++ [_]).length = _
    rw [List.length_append, imgL_len ps ks]
    rfl
theorem loop6 {ra rb rc : Int} {ps ws : List (List AV)} (hps : okPs ps) (hm : Mir ps) (hw : ws.length ≤ 400) :
    ∃ y, r6a ws ra rb rc ps false [] ((ws.length : Int) - 1) = some y ∧ (match y with
      | .x0 t _ _ => t = true
      | .x1 l _ => allK ps (nums ws) ∧ l = imAV (imgL ps (nums ws))) := by
  have hl := hps.1
  have run : ∃ y, r6a ws ra rb rc ps false [] ((ws.length : Int) - 1 - ((0 : Nat) : Int)) = some y ∧ (match y with
      | .x0 t _ _ => t = true
      | .x1 l _ => allK ps (nums ws) ∧ l = imAV (imgL ps (nums ws))) := by
    unfold r6a
    refine run_for (S := List (List AV)) ws.length (fun k s => (⟨s, (ws.length : Int) - 1 - (k : Int)⟩ : S6a)) (fun k s => allK ps ((nums ws).drop (ws.length - k)) ∧ s = imAV (imgL ps ((nums ws).drop (ws.length - k)))) (fun _ _ (y : T6a) => match y with
      | .x0 t _ _ => t = true
      | .x1 l _ => allK ps (nums ws) ∧ l = imAV (imgL ps (nums ws))) (fun k s hk hi => ?_) (fun s hi => ?_) 0 [] (Nat.zero_le _) ⟨?_, ?_⟩
    · obtain ⟨ha, rfl⟩ := hi
      obtain ⟨j, hj⟩ : ∃ j : Nat, j = ws.length - (k + 1) := ⟨_, rfl⟩
      have hjl : j < ws.length := by omega
      have hj1 : ws.length - k = j + 1 := by omega
      have hji : (ws.length : Int) - 1 - (k : Int) = (j : Int) := by omega
      rw [hj1] at ha ⊢
      have hlen : (imAV (imgL ps ((nums ws).drop (j + 1)))).length ≤ 400 := by
        unfold imAV
        rw [List.length_map, imgL_len, List.length_drop, nums_len]
        omega
      have hd := nums_drop hjl
      show (∃ s', stp6a ws ra rb rc ps false (imAV (imgL ps ((nums ws).drop (j + 1)))) ((ws.length : Int) - 1 - (k : Int)) = .go ⟨s', (ws.length : Int) - 1 - ((k + 1 : Nat) : Int)⟩ ∧ _) ∨ ∃ y, stp6a ws ra rb rc ps false (imAV (imgL ps ((nums ws).drop (j + 1)))) ((ws.length : Int) - 1 - (k : Int)) = _ ∧ _
      rw [hji]
      have hgoal : ∀ (v : Int), isK ps v = true → fI (ws.getD j []) 0 = v → allK ps ((nums ws).drop (ws.length - (k + 1))) ∧ imAV (imgL ps ((nums ws).drop (j + 1))) ++ [[.i .i64 (mi ps v.toNat : Int)]] = imAV (imgL ps ((nums ws).drop (ws.length - (k + 1)))) := by
        intro v hv e
        rw [← hj, hd, e]
        refine ⟨fun q hq => ?_, ?_⟩
        · rcases List.mem_cons.1 hq with rfl | hq
          · exact hv
          · exact ha q hq
        · show _ = imAV (imgL ps ((nums ws).drop (j + 1)) ++ [(mi ps v.toNat : Int)])
          unfold imAV
          rw [List.map_append]
          rfl
      generalize imAV (imgL ps ((nums ws).drop (j + 1))) = T at hlen hgoal ⊢
      unfold stp6a
      rw [Int.toNat_natCast]
      generalize fI (ws.getD j []) 0 = v at hgoal ⊢
      have d0 : decide ((j : Int) ≥ 0) = true := decide_eq_true (by omega)
      simp only [d0, inb_true hjl, cond_true]
      by_cases h1 : v < 0
      · right
        rw [decide_eq_true h1]
        exact ⟨_, rfl, rfl⟩
      · by_cases h2 : v ≥ (ps.length : Int)
        · right
          rw [decide_eq_false h1, decide_eq_true h2]
          exact ⟨_, rfl, rfl⟩
        · left
          have hv : isK ps v = true := by
            unfold isK
            rw [Bool.and_eq_true, decide_eq_true_eq, decide_eq_true_eq]
            omega
          obtain ⟨g1, g2⟩ := hgoal v hv rfl
          obtain ⟨q, rfl, hq⟩ := isK_nat hv
          have l1 : ∀ z : List AV, (T.length + [z].length).ble 9223372036854775807 = true := fun z => by
            rw [Nat.ble_eq]
            show T.length + 1 ≤ _
            omega
          have l2 : ∀ z : List AV, ((T.length + [z].length) * 8).ble 140737488355328 = true := fun z => by
            rw [Nat.ble_eq]
            show (T.length + 1) * 8 ≤ _
            omega
          have ew : IntKind.i64.wrap ((j : Int) - 1) = (ws.length : Int) - 1 - ((k + 1 : Nat) : Int) := (wrap64 (by omega) (by omega)).trans (by omega)
          rw [Int.toNat_natCast] at g2
          rw [decide_eq_false h1, decide_eq_false h2, inb_true hq, Int.toNat_natCast, (mi_ok hps hm hq).1, l1, l2, ew]
          exact ⟨_, rfl, ⟨g1, g2⟩, fun y hy => hy⟩
    · obtain ⟨ha, rfl⟩ := hi
      rw [Nat.sub_self, List.drop_zero] at *
      refine ⟨.x1 (imAV (imgL ps (nums ws))) (-1), ?_, ha, rfl⟩
      show stp6a ws ra rb rc ps false (imAV (imgL ps (nums ws))) ((ws.length : Int) - 1 - (ws.length : Int)) = _
      have e : (ws.length : Int) - 1 - (ws.length : Int) = -1 := by omega
      rw [e]
      unfold stp6a
      rfl
    · rw [Nat.sub_zero, List.drop_of_length_le (by rw [nums_len]; exact Nat.le_refl _)]
      intro k hk
      simp at hk
    · rw [Nat.sub_zero, List.drop_of_length_le (by rw [nums_len]; exact Nat.le_refl _)]
      rfl
  simpa using run
theorem image_law (ra rb rc : Int) (ps ws : List (List AV)) : g6 ra rb rc ps ws = true ∧ w6_0 ra rb rc ps ws = true := by
  unfold g6 w6_0 t6
  rw [g18_true]
  cases w18_0 ra rb rc ps with
  | true => exact ⟨rfl, rfl⟩
  | false =>
  cases h : decide ((ws.length : Int) > 400) with
  | true => exact ⟨rfl, rfl⟩
  | false =>
  have hw : ws.length ≤ 400 := by have := of_decide_eq_false h; omega
  rw [g29_true]
  by_cases h0 : w29_0 ra rb rc ps = 0
  · have hz : (w29_0 ra rb rc ps != 0) = false := by simp [h0]
    rw [hz]
    have hF := fine_of h0
    have hm : Mir ps := (check_eq ra rb rc ps).2.2 h0
    obtain ⟨y, hy, hv⟩ := loop6 (ra := ra) (rb := rb) (rc := rc) hF.ps hm hw
    have ew : IntKind.i64.wrap ((ws.length : Int) - 1) = (ws.length : Int) - 1 := wrap64 (by omega) (by omega)
    unfold i6a_0 i6a_1 v6a_0_t4' v6a_1_t5
    rw [ew, hy]
    cases y with
    | x0 t _ _ =>
      simp only at hv
      rw [hv]
      exact ⟨rfl, rfl⟩
    | x1 l _ =>
      obtain ⟨hall, rfl⟩ := hv
      obtain ⟨n, b, c, rfl, rfl, rfl, hn, hb, hc⟩ := fine_nat hF
      have h0' : w29_0 (n : Int) (c : Int) (b : Int) ps = 0 := check_ends h0 (by omega) (by omega) (by omega) (by omega)
      have hF' := fine_of h0'
      have p0 : w31_0 (n : Int) (b : Int) (c : Int) ps = (n : Int) := rfl
      have p1 : w31_1 (n : Int) (b : Int) (c : Int) ps = (c : Int) := rfl
      have p2 : w31_2 (n : Int) (b : Int) (c : Int) ps = (b : Int) := rfl
      have p3 : w31_3 (n : Int) (b : Int) (c : Int) ps = ps := rfl
      have hlen : (imAV (imgL ps (nums ws))).length < 9223372036854775807 := by
        unfold imAV
        rw [List.length_map, imgL_len, nums_len]
        omega
      obtain ⟨⟨a1, a2, a3⟩, _⟩ := fitsE_val (ws := ws) hF h0 (by omega)
      obtain ⟨⟨b1, b2, b3⟩, _⟩ := fitsE_val (ws := imAV (imgL ps (nums ws))) hF' h0' hlen
      rw [nums_imAV, ← fitsL_img hF.ps hm hall] at b3
      obtain ⟨v1, v2⟩ := ways_nat hF.ps hn hb hc h0
      obtain ⟨u1, u2⟩ := ways_nat hF.ps hn hc hb h0'
      have hmir := cnt_mir hF.ps hm n c b
      have e0 : ((0 : Int) != 0) = false := by decide
      have eb : ∀ b : Bool, (!b == b) = false := by decide
      have ei : ∀ b : Int, (b == b) = true := by simp
      rw [p0, p1, p2, p3]
      simp only
      rw [a1, a2, a3, b1, b2, b3, eb, e0, v1, u1]
      rcases v2 with ⟨_, v2, v3⟩ | ⟨_, v2, v3⟩ <;> rcases u2 with ⟨_, u2, u3⟩ | ⟨_, u2, u3⟩
      · rw [v2, v3, u2, u3, ei, ei]; exact ⟨rfl, rfl⟩
      · omega
      · omega
      · rw [v2, v3, u2, u3, hmir, ei, ei]; exact ⟨rfl, rfl⟩
  · have hz : (w29_0 ra rb rc ps != 0) = true := by simpa using h0
    rw [hz]
    exact ⟨rfl, rfl⟩
theorem ridgeImage_law (avs : List AV) (h : TyArgs Try.prog Try.f6.params.toList avs) : Con Try.prog 6 avs [] (.b true) [] := by
  obtain ⟨a0, r0, rfl, h0, h⟩ := tyArgs_cons h
  obtain ⟨a1, r1, rfl, h1, h⟩ := tyArgs_cons h
  obtain rfl := tyArgs_nil h
  obtain ⟨ra, rb, rc, ps, rfl, _⟩ := ridge_of h0
  obtain ⟨ws, rfl, _⟩ := ints_of h1
  obtain ⟨h1, h2⟩ := image_law ra rb rc ps ws
  have := con6 ra rb rc ps ws h1
  rw [h2] at this
  exact this
end Go.Proofs.Ytgifjphinkbcaaa
