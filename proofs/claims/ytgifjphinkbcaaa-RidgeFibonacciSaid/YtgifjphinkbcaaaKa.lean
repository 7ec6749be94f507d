/-
  The law RidgeFibonacci of the roofer's ridges answers true whatever byte it is handed; no conditions.
-/
import Derived.Test.YtgifjphinkbcaaaEvd
import Derived.Test.YtgifjphinkbcaaaRb
import Derived.Test.YtgifjphinkbcaaaRd
import Derived.Test.YtgifjphinkbcaaaEvb
import Derived.Test.YtgifjphinkbcaaaRe
set_option linter.unusedVariables false
set_option linter.unusedVariables false
namespace Go.Ev
open Go
/-- Rounds up to the way out. -/
theorem run_upto {σ τ : Type} {step : σ → Lp σ τ} {y : τ} (I : Nat → σ) : ∀ (m k : Nat), (∀ i, k ≤ i → i < k + m → step (I i) = .go (I (i + 1))) → step (I (k + m)) = .out y → run step (I k) = some y
  | 0, k, _, h => run_out h
  | m + 1, k, h1, h2 => by
    rw [run_go (h1 k (Nat.le_refl _) (by omega))]
    exact run_upto I m (k + 1) (fun i hi hi' => h1 i (by omega) (by omega)) (by rw [show k + 1 + m = k + (m + 1) by omega]; exact h2)
theorem run_from0 {σ τ : Type} {step : σ → Lp σ τ} {y : τ} (I : Nat → σ) {m : Nat} (h1 : ∀ i, i < m → step (I i) = .go (I (i + 1))) (h2 : step (I m) = .out y) : run step (I 0) = some y :=
  run_upto I m 0 (fun i _ hi => h1 i (by omega)) (by rw [Nat.zero_add]; exact h2)
theorem wrap64 {x : Int} (h0 : -9223372036854775808 ≤ x) (h1 : x ≤ 9223372036854775807) : IntKind.i64.wrap x = x := by
  simp only [IntKind.wrap, IntKind.signed, IntKind.bits]
  simp
  omega
theorem inb_nat {i n : Nat} : inb ((i : Nat) : Int) n = decide (i < n) := by
  simp [inb]

/-! ### Tables of numbers -/
/-- Rows of ten. -/
def tabR (f : Nat → Int) : List AV := (List.range 10).map fun h => .i .i64 (f h)
def tab (N : Nat) (T : Nat → Nat → Int) : List (List AV) := (List.range N).map fun n => tabR (T n)
def upd (f : Nat → Int) (h : Nat) (v : Int) : Nat → Int := fun k => if k = h then v else f k
def upd2 (T : Nat → Nat → Int) (n h : Nat) (v : Int) : Nat → Nat → Int := fun k => if k = n then upd (T n) h v else T k
theorem tab_len (N : Nat) (T : Nat → Nat → Int) : (tab N T).length = N := by simp [tab]
theorem tabR_len (f : Nat → Int) : (tabR f).length = 10 := by simp [tabR]
theorem tab_get {N n : Nat} {T : Nat → Nat → Int} (h : n < N) : (tab N T).getD n [] = tabR (T n) := by
  simp [tab, List.getD_eq_getElem?_getD, h]
theorem tabR_get {f : Nat → Int} {h : Nat} (hh : h < 10) : toI ((tabR f).getD h .u) = f h := by
  simp [tabR, List.getD_eq_getElem?_getD, hh, toI]
theorem tabR_set {f : Nat → Int} {h : Nat} {v : Int} (hh : h < 10) : (tabR f).set h (.i .i64 v) = tabR (upd f h v) := by
  apply List.ext_getElem
  · simp [tabR]
  · intro i h1 h2
    have hi : i < 10 := by simpa [tabR] using h1
    simp only [tabR, List.getElem_set, List.getElem_map, List.getElem_range, upd]
    by_cases e : h = i
    · subst e; simp
    · simp [e, Ne.symm e]
theorem tab_set {N n h : Nat} {T : Nat → Nat → Int} {v : Int} (hn : n < N) (hh : h < 10) : (tab N T).set n (setCs ((tab N T).getD n []) h [.i .i64 v]) = tab N (upd2 T n h v) := by
  rw [tab_get hn]
  show (tab N T).set n ((tabR (T n)).set h (.i .i64 v)) = _
  rw [tabR_set hh]
  apply List.ext_getElem
  · simp [tab]
  · intro i h1 h2
    have hi : i < N := by simpa [tab] using h1
    simp only [tab, List.getElem_set, List.getElem_map, List.getElem_range, upd2]
    by_cases e : n = i
    · subst e; simp
    · simp [e, Ne.symm e]
theorem tab_zero (N : Nat) : List.replicate N [.i .i64 0, .i .i64 0, .i .i64 0, .i .i64 0, .i .i64 0, .i .i64 0, .i .i64 0, .i .i64 0, .i .i64 0, .i .i64 0] = tab N (fun _ _ => 0) := by
  apply List.ext_getElem
  · simp [tab]
  · intro i h1 h2
    simp only [tab, List.getElem_replicate, List.getElem_map]
    rfl
theorem tab_congr {N : Nat} {T T' : Nat → Nat → Int} (h : ∀ n, n < N → ∀ k, k < 10 → T n k = T' n k) : tab N T = tab N T' := by
  apply List.ext_getElem
  · simp [tab]
  · intro i h1 h2
    have hi : i < N := by simpa [tab] using h1
    simp only [tab, List.getElem_map, List.getElem_range, tabR]
    apply List.map_congr_left
    intro k hk
    rw [h i hi k (by simpa using hk)]
end Go.Ev

set_option maxRecDepth 100000
set_option linter.unusedVariables false
namespace Go.Proofs.Ytgifjphinkbcaaa
open Go Go.Ev
def cap : Int := 1000000000000001
def okT (T : Nat → Nat → Int) : Prop := ∀ n h, 0 ≤ T n h ∧ T n h ≤ cap
def lvl1 (i L A B : Nat) (T : Nat → Nat → Int) : Nat → Nat → Int := if L ≤ i then upd2 T i A (bmin (T i A + T (i - L) B) cap) else T
theorem bmin_le (a b : Int) : bmin a b = if a ≤ b then a else b := by
  unfold bmin
  first
    | rfl
    | (by_cases h : b < a
       · have : ¬ a ≤ b := by omega
         simp [h, this]
       · have : a ≤ b := by omega
         simp [h, this])
theorem lvl1_ok {i L A B : Nat} {T : Nat → Nat → Int} (h : okT T) : okT (lvl1 i L A B T) := by
  intro n k
  unfold lvl1
  split
  · unfold upd2
    split
    · unfold upd
      split
      · have := h i A
        have := h (i - L) B
        rw [bmin_le]
        unfold cap at *
        split <;> omega
      · exact h i k
    · exact h n k
  · exact h n k
theorem g71_true (q0 q1 : Int) (nm : ByteArray) (pa pb pc pd : Int) : g71 q0 q1 nm pa pb pc pd = true := by
  unfold g71 t71
  cases pb == q1 <;> rfl
theorem w71_same (q0 : Int) (nm : ByteArray) (pa pb pc pd : Int) : w71_0 q0 pb nm pa pb pc pd = IntKind.i64.wrap (q0 - pa) ∧ w71_1 q0 pb nm pa pb pc pd = pc ∧ w71_2 q0 pb nm pa pb pc pd = decide (pa ≤ q0) := by
  unfold w71_0 w71_1 w71_2 t71
  simp [Tr.val]
theorem cts91 {A : Nat} (h : A < 10) : ctsAt (cts Try.prog 91) (0 + ((A : Nat) : Int).toNat * 1) (cts Try.prog 3) = true := by
  rcases A with _ | _ | _ | _ | _ | _ | _ | _ | _ | _ | A
  all_goals first | (exfalso; omega) | kernel_rfl
theorem stp_go {ra rb rc : Int} {ps : List (List AV)} {N i k L A B : Nat} {T : Nat → Nat → Int} {p : List AV} (hp : ps.getD k [] = p) (hk : k < ps.length) (hlen : ps.length ≤ 10) (h1 : fI p 1 = (L : Int)) (h2 : fI p 2 = (A : Int)) (h3 : fI p 3 = (B : Int))
    (hA : A < 10) (hB : B < 10) (hL : 1 ≤ L) (hL2 : L ≤ 2000) (hi : i < N) (hN : N ≤ 2001) (hT : okT T) :
    stp81aa ra rb rc ps N (i : Int) ps (ps.length : Int) (k : Int) (tab N T) = .go ⟨((k + 1 : Nat) : Int), tab N (lvl1 i L A B T)⟩ := by
  unfold stp81aa
  have e1 : decide ((k : Int) < (ps.length : Int)) = true := decide_eq_true (by omega)
  have e2 : inb (k : Int) ps.length = true := by simp [inb_nat, hk]
  obtain ⟨w0, w1, w2⟩ := w71_same (i : Int) (fS p 0) (L : Int) (A : Int) (B : Int) (fI p 4)
  have ew : IntKind.i64.wrap ((k : Int) + 1) = ((k + 1 : Nat) : Int) := (wrap64 (by omega) (by omega)).trans (by omega)
  have ei : inb (i : Int) N = true := by simp [inb_nat, hi]
  have eA : inb (A : Int) 10 = true := by simp [inb_nat, hA]
  have eB : inb (B : Int) 10 = true := by simp [inb_nat, hB]
  have cA := cts91 hA
  have cB := cts91 hB
  simp only [e1, e2, cond_true, Int.toNat_natCast, hp, h1, h2, h3, g71_true, w0, w1, w2, ew, ei, eA, eB, tab_len, Nat.zero_add, Nat.mul_one] at cA cB ⊢
  rw [cA, cB]
  have bi : Nat.blt i N = true := by simpa [Nat.blt_eq] using hi
  simp only [bi, Bool.and_true, cond_true]
  by_cases hLi : L ≤ i
  · have d1 : decide ((L : Int) ≤ (i : Int)) = true := decide_eq_true (by omega)
    have ww : IntKind.i64.wrap ((i : Int) - (L : Int)) = ((i - L : Nat) : Int) := (wrap64 (by omega) (by omega)).trans (by omega)
    have hj : i - L < N := by omega
    have ej : inb ((i - L : Nat) : Int) N = true := by simp [inb_nat, hj]
    have bj : Nat.blt (i - L) N = true := by simpa [Nat.blt_eq] using hj
    have q1 := hT i A
    have q2 := hT (i - L) B
    simp only [d1, cond_true, ww, ej, Int.toNat_natCast, bj, Bool.and_true, tab_get hi, tab_get hj, tabR_get hA, tabR_get hB]
    rw [wrap64 (by unfold cap at *; omega) (by unfold cap at *; omega)]
    have := tab_set (N := N) (T := T) (v := bmin (T i A + T (i - L) B) 1000000000000001) hi hA
    rw [tab_get hi] at this
    rw [this]
    unfold lvl1
    rw [if_pos hLi]
    rfl
  · have d1 : decide ((L : Int) ≤ (i : Int)) = false := decide_eq_false (by omega)
    simp only [d1, cond_false]
    unfold lvl1
    rw [if_neg hLi]
end Go.Proofs.Ytgifjphinkbcaaa

set_option maxRecDepth 100000
set_option linter.unusedVariables false
namespace Go.Proofs.Ytgifjphinkbcaaa
open Go Go.Ev
def okPc (p : List AV) : Prop := 1 ≤ fI p 1 ∧ fI p 1 ≤ 2000 ∧ 0 ≤ fI p 2 ∧ fI p 2 < 10 ∧ 0 ≤ fI p 3 ∧ fI p 3 < 10
def okPs (ps : List (List AV)) : Prop := ps.length ≤ 10 ∧ ∀ p, p ∈ ps → okPc p
def pL (p : List AV) : Nat := (fI p 1).toNat
def pA (p : List AV) : Nat := (fI p 2).toNat
def pB (p : List AV) : Nat := (fI p 3).toNat
def lvlP (i : Nat) (T : Nat → Nat → Int) (p : List AV) : Nat → Nat → Int := lvl1 i (pL p) (pA p) (pB p) T
def lvl (ps : List (List AV)) (i : Nat) (T : Nat → Nat → Int) : Nat → Nat → Int := ps.foldl (lvlP i) T
theorem lvl_ok (ps : List (List AV)) {i : Nat} : ∀ {T : Nat → Nat → Int}, okT T → okT (lvl ps i T) := by
  induction ps with
  | nil => exact fun h => h
  | cons p ps ih => exact fun h => ih (lvl1_ok h)
theorem take_foldl {ps : List (List AV)} {i k : Nat} {T : Nat → Nat → Int} (hk : k < ps.length) : lvl (ps.take (k + 1)) i T = lvlP i (lvl (ps.take k) i T) (ps.getD k []) := by
  unfold lvl
  have : ps.take (k + 1) = ps.take k ++ [ps.getD k []] := by
    rw [List.take_add_one, List.getElem?_eq_getElem hk]
    simp [List.getD_eq_getElem?_getD, List.getElem?_eq_getElem hk]
  rw [this, List.foldl_append]
  rfl
theorem inner {ra rb rc : Int} {ps : List (List AV)} {N i : Nat} {T : Nat → Nat → Int} (hps : okPs ps) (hi : i < N) (hN : N ≤ 2001) (hT : okT T) :
    r81aa ra rb rc ps N (i : Int) ps (ps.length : Int) 0 (tab N T) = some (.x0 (ps.length : Int) (tab N (lvl ps i T))) := by
  unfold r81aa
  have := run_from0 (step := fun x : S81aa => stp81aa ra rb rc ps N (i : Int) ps (ps.length : Int) x.t27 x.m5) (y := .x0 (ps.length : Int) (tab N (lvl ps i T))) (m := ps.length)
    (fun k => ⟨(k : Int), tab N (lvl (ps.take k) i T)⟩) (fun k hk => ?_) ?_
  · simpa [lvl] using this
  · have hm : ps.getD k [] ∈ ps := by
      simp only [List.getD_eq_getElem?_getD, List.getElem?_eq_getElem hk, Option.getD_some]
      exact List.getElem_mem hk
    obtain ⟨b1, b2, b3, b4, b5, b6⟩ := hps.2 _ hm
    have := stp_go (ra := ra) (rb := rb) (rc := rc) (ps := ps) (N := N) (i := i) (k := k) (L := pL (ps.getD k [])) (A := pA (ps.getD k [])) (B := pB (ps.getD k [])) (T := lvl (ps.take k) i T) rfl hk hps.1
      (by unfold pL; omega) (by unfold pA; omega) (by unfold pB; omega) (by unfold pA; omega) (by unfold pB; omega) (by unfold pL; omega) (by unfold pL; omega) hi hN (lvl_ok _ hT)
    rw [take_foldl hk]
    exact this
  · show stp81aa ra rb rc ps N (i : Int) ps (ps.length : Int) (ps.length : Int) _ = _
    rw [List.take_length]
    unfold stp81aa
    have : decide ((ps.length : Int) < (ps.length : Int)) = false := decide_eq_false (by omega)
    rw [this]
    rfl
/-- Level by level. -/
def T0 (c : Nat) : Nat → Nat → Int := upd2 (fun _ _ => 0) 0 c 1
def tabs (ps : List (List AV)) (c : Nat) : Nat → Nat → Nat → Int
  | 0 => T0 c
  | i + 1 => lvl ps (i + 1) (tabs ps c i)
theorem T0_ok (c : Nat) : okT (T0 c) := by
  intro n h
  show 0 ≤ (if n = 0 then upd (fun _ => 0) c 1 else fun _ => 0) h ∧ (if n = 0 then upd (fun _ => 0) c 1 else fun _ => 0) h ≤ cap
  unfold cap
  split
  · show 0 ≤ (if h = c then (1 : Int) else 0) ∧ (if h = c then (1 : Int) else 0) ≤ _
    split <;> omega
  · show (0 : Int) ≤ 0 ∧ (0 : Int) ≤ _
    omega
theorem tabs_ok (ps : List (List AV)) (c : Nat) : ∀ i, okT (tabs ps c i)
  | 0 => T0_ok c
  | i + 1 => lvl_ok ps (tabs_ok ps c i)
theorem outer {rb rc : Int} {ps : List (List AV)} {n c : Nat} (hps : okPs ps) (hn : n ≤ 2000) :
    r81a (n : Int) rb rc ps (n + 1) 1 (tab (n + 1) (tabs ps c 0)) = some (.x0 ((n + 1 : Nat) : Int) (tab (n + 1) (tabs ps c n))) := by
  unfold r81a
  have := run_from0 (step := fun x : S81a => stp81a (n : Int) rb rc ps (n + 1) x.t4 x.m5) (y := .x0 ((n + 1 : Nat) : Int) (tab (n + 1) (tabs ps c n))) (m := n)
    (fun k => ⟨((k + 1 : Nat) : Int), tab (n + 1) (tabs ps c k)⟩) (fun k hk => ?_) ?_
  · exact this
  · show stp81a (n : Int) rb rc ps (n + 1) ((k + 1 : Nat) : Int) (tab (n + 1) (tabs ps c k)) = _
    unfold stp81a
    have e1 : decide (((k + 1 : Nat) : Int) ≤ (n : Int)) = true := decide_eq_true (by omega)
    have hin := inner (ra := (n : Int)) (rb := rb) (rc := rc) (ps := ps) (N := n + 1) (i := k + 1) (T := tabs ps c k) hps (by omega) (by omega) (tabs_ok ps c k)
    have ew : IntKind.i64.wrap (((k + 1 : Nat) : Int) + 1) = ((k + 1 + 1 : Nat) : Int) := (wrap64 (by omega) (by omega)).trans (by omega)
    rw [e1, cond_true, ew]
    unfold i81aa_0 v81aa_0_m5
    rw [hin]
    rfl
  · show stp81a (n : Int) rb rc ps (n + 1) ((n + 1 : Nat) : Int) (tab (n + 1) (tabs ps c n)) = _
    unfold stp81a
    have e1 : decide (((n + 1 : Nat) : Int) ≤ (n : Int)) = false := decide_eq_false (by omega)
    rw [e1]
    rfl
theorem count_val {rb : Int} {ps : List (List AV)} {n c : Nat} (hps : okPs ps) (hn : n ≤ 2000) (hc : c < 10) : g81 (n : Int) rb (c : Int) ps = true ∧ w81_0 (n : Int) rb (c : Int) ps = tab (n + 1) (tabs ps c n) := by
  have ew : IntKind.i64.wrap ((n : Int) + 1) = ((n + 1 : Nat) : Int) := (wrap64 (by omega) (by omega)).trans (by omega)
  have ez : (tab (n + 1) (fun _ _ => 0)).set 0 (setCs ((tab (n + 1) (fun _ _ => 0)).getD 0 []) c [.i .i64 1]) = tab (n + 1) (tabs ps c 0) := tab_set (by omega) hc
  have ho := outer (rb := rb) (rc := (c : Int)) (c := c) hps hn
  have cc := cts91 hc
  simp only [Int.toNat_natCast, Nat.zero_add, Nat.mul_one] at cc
  have ic : inb (c : Int) 10 = true := by simp [inb_nat, hc]
  have i0 : inb 0 (n + 1) = true := by simp [inb]
  have d1 : decide ((0 : Int) ≤ ((n + 1 : Nat) : Int)) = true := decide_eq_true (by omega)
  have d2 : decide (((n + 1 : Nat) : Int) * ((80 : Nat) : Int) ≤ 140737488355328) = true := decide_eq_true (by omega)
  have d3 : decide (((n + 1 : Nat) : Int) ≤ 9223372036854775807) = true := decide_eq_true (by omega)
  have iv : i81a_0 (n : Int) rb (c : Int) ps (n + 1) 1 (tab (n + 1) (tabs ps c 0)) = true := by
    unfold i81a_0
    rw [ho]
  have vv : v81a_0_m5 (n : Int) rb (c : Int) ps (n + 1) 1 (tab (n + 1) (tabs ps c 0)) = tab (n + 1) (tabs ps c n) := by
    unfold v81a_0_m5
    rw [ho]
  have b1 : Nat.ble (n + 1) (n + 1) = true := by simp
  have b2 : Nat.beq (n + 1) (n + 1) = true := by simp
  have b3 : Nat.blt 0 (n + 1) = true := by simp [Nat.blt_eq]
  have d2' : decide (((n + 1 : Nat) : Int) * 80 ≤ 140737488355328) = true := decide_eq_true (by omega)
  unfold g81 w81_0 t81
  simp only [ew, Int.toNat_natCast, tab_zero, Nat.zero_add, Nat.mul_one, ez, tab_len, cc, ic, i0, d1, d2', d3, iv, vv, b1, b2, b3, Bool.and_true, Tr.g, Tr.val, cond_true, decide_true, and_self]
end Go.Proofs.Ytgifjphinkbcaaa

set_option maxRecDepth 100000
set_option linter.unusedVariables false
namespace Go.Ev
open Go
/-- Rounds that come to an end. -/
theorem run_total {σ τ : Type} {step : σ → Lp σ τ} (μ : σ → Nat) (Inv : σ → Prop) (h : ∀ x, Inv x → (∃ y, step x = .go y ∧ Inv y ∧ μ y < μ x) ∨ ∃ y, step x = .out y) : ∀ x, Inv x → ∃ y, run step x = some y := by
  have key : ∀ (n : Nat) x, μ x < n → Inv x → ∃ y, run step x = some y := by
    intro n
    induction n with
    | zero => intro x hx; omega
    | succ n ih =>
      intro x hx hi
      rcases h x hi with ⟨y, h1, h2, h3⟩ | ⟨y, h1⟩
      · rw [run_go h1]
        exact ih y (by omega) h2
      · exact ⟨y, run_out h1⟩
  exact fun x hi => key (μ x + 1) x (by omega) hi
/-- What holds of the end, back through the rounds. -/
theorem run_ind {σ τ : Type} {step : σ → Lp σ τ} {Q : σ → τ → Prop} (h1 : ∀ x y, step x = .out y → Q x y) (h2 : ∀ x x' y, step x = .go x' → Q x' y → Q x y) {x : σ} {y : τ} (h : run step x = some y) : Q x y := by
  obtain ⟨n, hn⟩ := run_iter h
  clear h
  induction n generalizing x with
  | zero => cases hn
  | succ n ih =>
    rw [iter_succ] at hn
    split at hn
    · rename_i x' hs
      exact h2 x x' y hs (ih hn)
    · rename_i y' hs
      cases hn
      exact h1 x _ hs
    · cases hn
end Go.Ev
namespace Go.Proofs.Ytgifjphinkbcaaa
open Go Go.Ev
/-! ### Names -/
theorem g85_true (c : Int) : g85 c = true := by
  unfold g85 t85
  cases decide (c ≥ 97) <;> cases decide (c ≤ 122) <;> cases decide (c ≥ 48) <;> cases decide (c ≤ 57) <;> rfl
theorem run94 (nm : ByteArray) (tr : Bool) : ∃ y, r94a tr 0 nm 0 = some y := by
  unfold r94a
  refine run_total (fun x => nm.size - x.m2_1) (fun _ => True) (fun x _ => ?_) _ trivial
  unfold stp94a
  simp only [g85_true, cond_true]
  cases hb : x.m2_1.blt nm.size with
  | false => exact .inr ⟨_, rfl⟩
  | true =>
    have hb : x.m2_1 < nm.size := by simpa [Nat.blt_eq] using hb
    simp only [cond_true]
    cases w85_0 ↑(Utf8.decode nm x.m2_1).fst == tr with
    | true => exact .inr ⟨_, rfl⟩
    | false =>
      have := (decode_bounds nm x.m2_1).2
      exact .inl ⟨_, rfl, trivial, by show nm.size - (x.m2_1 + _) < nm.size - x.m2_1; omega⟩
theorem g94_true (nm : ByteArray) (tr : Bool) : g94 nm tr = true := by
  obtain ⟨y, hy⟩ := run94 nm tr
  unfold g94 t94 i94a_0 i94a_1
  rw [hy]
  cases y <;> rfl
theorem g84_true (nm : ByteArray) : g84 nm = true := by
  have : g91 nm = true := by
    unfold g91 t91
    rw [g94_true]; rfl
  unfold g84 t84
  rw [this]; rfl
theorem g61_true (nm : ByteArray) : g61 nm = true := by
  unfold g61 t61
  rw [g84_true]
  cases h1 : (nm.toList == (⟨#[]⟩ : ByteArray).toList) with
  | true => rfl
  | false =>
    have hs : 0 < nm.size := by
      rcases Nat.eq_zero_or_pos nm.size with e | e
      · exfalso
        have hnil : nm.toList = (⟨#[]⟩ : ByteArray).toList := by
          have : nm.data = #[] := Array.eq_empty_of_size_eq_zero e
          cases nm
          simp at this
          subst this
          rfl
        rw [hnil] at h1
        simp at h1
      · exact e
    have hi : inb 0 nm.size = true := by simp [inb, hs]
    rw [hi]
    cases decide ((nm.size : Int) > 16) <;> cases decide (((nm.data.toList.getD 0 0).toNat : Int) < 97) <;> cases decide (((nm.data.toList.getD 0 0).toNat : Int) > 122) <;> rfl
theorem g55_true (a b c : Int) : g55 a b c = true := by
  unfold g55 t55
  cases decide (b ≤ a) <;> rfl
theorem w55_eq (a b c : Int) : w55_0 a b c = (decide (b ≤ a) && decide (a ≤ c)) := by
  unfold w55_0 t55
  cases decide (b ≤ a) <;> rfl
end Go.Proofs.Ytgifjphinkbcaaa

set_option maxRecDepth 100000
set_option linter.unusedVariables false
namespace Go.Proofs.Ytgifjphinkbcaaa
open Go Go.Ev
theorem stepA {ra rb rc : Int} {ps : List (List AV)} {k : Nat} {m : List (AV × AV)} (hk : k < ps.length) (hl : ps.length ≤ 10) :
    (∃ a b c, a ≠ 0 ∧ stp29a ra rb rc ps 0 ps (ps.length : Int) (k : Int) m = .out (.x0 a b c)) ∨ (okPc (ps.getD k []) ∧ ∃ m', stp29a ra rb rc ps 0 ps (ps.length : Int) (k : Int) m = .go ⟨((k + 1 : Nat) : Int), m'⟩) := by
  unfold stp29a
  have e1 : decide ((k : Int) < (ps.length : Int)) = true := decide_eq_true (by omega)
  have e2 : inb (k : Int) ps.length = true := by simp [inb_nat, hk]
  have ew : IntKind.i64.wrap ((k : Int) + 1) = ((k + 1 : Nat) : Int) := (wrap64 (by omega) (by omega)).trans (by omega)
  simp only [e1, e2, cond_true, g61_true, g55_true, Int.toNat_natCast, ew, w55_eq]
  generalize ps.getD k [] = p
  cases w61_0 (fS p 0) with
  | false => exact .inl ⟨_, _, _, by decide, rfl⟩
  | true =>
    simp only [Bool.not_true, cond_false]
    cases toB ((mget (AV.s (fS p 0)) m).getD (AV.b false)) with
    | true => exact .inl ⟨_, _, _, by decide, rfl⟩
    | false =>
      simp only [cond_false]
      cases h1 : (decide (1 ≤ fI p 1) && decide (fI p 1 ≤ 2000)) with
      | false => exact .inl ⟨_, _, _, by decide, rfl⟩
      | true =>
        simp only [Bool.not_true, cond_false]
        cases h2 : (decide (0 ≤ fI p 2) && decide (fI p 2 ≤ 9)) with
        | false => exact .inl ⟨_, _, _, by decide, rfl⟩
        | true =>
          simp only [Bool.not_true, cond_false]
          cases h3 : (decide (0 ≤ fI p 3) && decide (fI p 3 ≤ 9)) with
          | false => exact .inl ⟨_, _, _, by decide, rfl⟩
          | true =>
            simp only [Bool.and_eq_true, decide_eq_true_eq] at h1 h2 h3
            exact .inr ⟨⟨h1.1, h1.2, h2.1, by omega, h3.1, by omega⟩, _, rfl⟩
theorem stepA_end {ra rb rc : Int} {ps : List (List AV)} {m : List (AV × AV)} : stp29a ra rb rc ps 0 ps (ps.length : Int) (ps.length : Int) m = .out (.x1 (ps.length : Int) m) := by
  unfold stp29a
  have e1 : decide ((ps.length : Int) < (ps.length : Int)) = false := decide_eq_false (by omega)
  rw [e1]; rfl
theorem loopA (ra rb rc : Int) {ps : List (List AV)} (hl : ps.length ≤ 10) : ∃ y, r29a ra rb rc ps 0 ps (ps.length : Int) 0 [] = some y ∧ (∀ t m, y = .x1 t m → okPs ps) ∧ (∀ a t m, y = .x0 a t m → a ≠ 0) := by
  have key : ∀ (n k : Nat) (m : List (AV × AV)), ps.length - k = n → k ≤ ps.length → ∃ y, run (fun x : S29a => stp29a ra rb rc ps 0 ps (ps.length : Int) x.t35 x.m24) ⟨(k : Int), m⟩ = some y ∧ (∀ t m', y = .x1 t m' → ∀ j, k ≤ j → j < ps.length → okPc (ps.getD j [])) ∧ (∀ a t m, y = .x0 a t m → a ≠ 0) := by
    intro n
    induction n with
    | zero =>
      intro k m hn hk
      have : k = ps.length := by omega
      subst this
      exact ⟨_, run_out stepA_end, fun t m' _ j h1 h2 => (by omega), fun a t m e => by cases e⟩
    | succ n ih =>
      intro k m hn hk
      rcases stepA (ra := ra) (rb := rb) (rc := rc) (m := m) (show k < ps.length by omega) hl with ⟨a, b, c, ha, h⟩ | ⟨hp, m', h⟩
      · exact ⟨_, run_out h, fun t m' e => (by cases e), fun a t m e => by cases e; exact ha⟩
      · obtain ⟨y, h1, h2, h3⟩ := ih (k + 1) m' (by omega) (by omega)
        refine ⟨y, (run_go (step := fun x : S29a => stp29a ra rb rc ps 0 ps (ps.length : Int) x.t35 x.m24) h).trans h1, fun t m' e j hj hj' => ?_, h3⟩
        rcases Nat.eq_or_lt_of_le hj with e' | e'
        · rw [← e']; exact hp
        · exact h2 t m' e j e' hj'
  obtain ⟨y, h1, h2, h3⟩ := key ps.length 0 [] rfl (Nat.zero_le _)
  refine ⟨y, h1, fun t m e => ⟨hl, fun p hp => ?_⟩, h3⟩
  obtain ⟨j, hj, rfl⟩ := List.getElem_of_mem hp
  have := h2 t m e j (Nat.zero_le _) hj
  simpa [List.getD_eq_getElem?_getD, List.getElem?_eq_getElem hj] using this
end Go.Proofs.Ytgifjphinkbcaaa

set_option maxRecDepth 100000
set_option linter.unusedVariables false
namespace Go.Proofs.Ytgifjphinkbcaaa
open Go Go.Ev
theorem stepB {ra rb rc : Int} {ps : List (List AV)} {k : Nat} (hk : k < ps.length) (hl : ps.length ≤ 10) :
    (∃ a b, a ≠ 0 ∧ stp29b ra rb rc ps 0 ps (ps.length : Int) (k : Int) = .out (.x0 a b)) ∨ stp29b ra rb rc ps 0 ps (ps.length : Int) (k : Int) = .go ⟨((k + 1 : Nat) : Int)⟩ := by
  unfold stp29b
  have e1 : decide ((k : Int) < (ps.length : Int)) = true := decide_eq_true (by omega)
  have e2 : inb (k : Int) ps.length = true := by simp [inb_nat, hk]
  have ew : IntKind.i64.wrap ((k : Int) + 1) = ((k + 1 : Nat) : Int) := (wrap64 (by omega) (by omega)).trans (by omega)
  have ew2 : IntKind.i64.wrap ((ps.length : Int) - 1) = (ps.length : Int) - 1 := wrap64 (by omega) (by omega)
  simp only [e1, e2, cond_true, g55_true, Int.toNat_natCast, ew, ew2, w55_eq]
  cases h1 : (decide (0 ≤ fI (ps.getD k []) 4) && decide (fI (ps.getD k []) 4 ≤ (ps.length : Int) - 1)) with
  | false => exact .inl ⟨_, _, by decide, rfl⟩
  | true =>
    simp only [Bool.and_eq_true, decide_eq_true_eq] at h1
    have hi : inb (fI (ps.getD k []) 4) ps.length = true := by
      obtain ⟨q, hq⟩ : ∃ q : Nat, fI (ps.getD k []) 4 = (q : Int) := ⟨(fI (ps.getD k []) 4).toNat, by omega⟩
      rw [hq, inb_nat]
      exact decide_eq_true (by omega)
    simp only [Bool.not_true, cond_false, hi, cond_true]
    have key : ∀ (c d : Bool), (∃ a b, a ≠ 0 ∧ (cond c (Lp.out (T29b.x0 10 (k : Int))) (cond d (Lp.out (T29b.x0 10 (k : Int))) (Lp.go (⟨((k + 1 : Nat) : Int)⟩ : S29b))) : Lp S29b T29b) = .out (.x0 a b)) ∨ (cond c (Lp.out (T29b.x0 10 (k : Int))) (cond d (Lp.out (T29b.x0 10 (k : Int))) (Lp.go (⟨((k + 1 : Nat) : Int)⟩ : S29b))) : Lp S29b T29b) = .go ⟨((k + 1 : Nat) : Int)⟩ := by
      intro c d
      cases c <;> cases d <;> first | exact .inl ⟨_, _, by decide, rfl⟩ | exact .inr rfl
    exact key _ _
theorem stepB_end {ra rb rc : Int} {ps : List (List AV)} : stp29b ra rb rc ps 0 ps (ps.length : Int) (ps.length : Int) = .out (.x1 (ps.length : Int)) := by
  unfold stp29b
  have e1 : decide ((ps.length : Int) < (ps.length : Int)) = false := decide_eq_false (by omega)
  rw [e1]; rfl
theorem loopB (ra rb rc : Int) {ps : List (List AV)} (hl : ps.length ≤ 10) : ∃ y, r29b ra rb rc ps 0 ps (ps.length : Int) 0 = some y ∧ (∀ a t, y = .x0 a t → a ≠ 0) := by
  have key : ∀ (n k : Nat), ps.length - k = n → k ≤ ps.length → ∃ y, run (fun x : S29b => stp29b ra rb rc ps 0 ps (ps.length : Int) x.t73) ⟨(k : Int)⟩ = some y ∧ (∀ a t, y = .x0 a t → a ≠ 0) := by
    intro n
    induction n with
    | zero =>
      intro k hn hk
      have : k = ps.length := by omega
      subst this
      exact ⟨_, run_out stepB_end, fun a t e => by cases e⟩
    | succ n ih =>
      intro k hn hk
      rcases stepB (ra := ra) (rb := rb) (rc := rc) (show k < ps.length by omega) hl with ⟨a, b, ha, h⟩ | h
      · exact ⟨_, run_out h, fun a t e => by cases e; exact ha⟩
      · obtain ⟨y, h1, h2⟩ := ih (k + 1) (by omega) (by omega)
        exact ⟨y, (run_go (step := fun x : S29b => stp29b ra rb rc ps 0 ps (ps.length : Int) x.t73) h).trans h1, h2⟩
  exact key ps.length 0 rfl (Nat.zero_le _)
/-- Check always answers. -/
theorem g29_true (ra rb rc : Int) (ps : List (List AV)) : g29 ra rb rc ps = true := by
  unfold g29 t29
  simp only [g55_true, w55_eq]
  cases decide (0 ≤ ra) && decide (ra ≤ 2000) with
  | false => rfl
  | true =>
  cases decide (0 ≤ rb) && decide (rb ≤ 9) with
  | false => rfl
  | true =>
  cases decide (0 ≤ rc) && decide (rc ≤ 9) with
  | false => rfl
  | true =>
  cases h : decide ((ps.length : Int) > 10) with
  | true => rfl
  | false =>
  have hl : ps.length ≤ 10 := by have := of_decide_eq_false h; omega
  obtain ⟨y, hy, _⟩ := loopA ra rb rc hl
  obtain ⟨z, hz, _⟩ := loopB ra rb rc hl
  unfold i29a_0 i29a_1 i29b_0 i29b_1
  rw [hy, hz]
  cases y <;> cases z <;> rfl
/-- What a Ridge is that passes Check. -/
structure Fine (ra rb rc : Int) (ps : List (List AV)) : Prop where
  a : 0 ≤ ra ∧ ra ≤ 2000
  b : 0 ≤ rb ∧ rb ≤ 9
  c : 0 ≤ rc ∧ rc ≤ 9
  ps : okPs ps
theorem check_err (ra rb rc : Int) (ps : List (List AV)) : w29_0 ra rb rc ps ≠ 0 ∨ (Fine ra rb rc ps ∧ ∀ ra' rb', 0 ≤ ra' → ra' ≤ 2000 → 0 ≤ rb' → rb' ≤ 9 → w29_0 ra' rb' rc ps = 0) := by
  cases ha : (decide (0 ≤ ra) && decide (ra ≤ 2000)) with
  | false =>
    left
    unfold w29_0 t29
    simp only [g55_true, w55_eq, ha, Tr.val, cond_true, Bool.not_false]
    decide
  | true =>
  cases hb : (decide (0 ≤ rb) && decide (rb ≤ 9)) with
  | false =>
    left
    unfold w29_0 t29
    simp only [g55_true, w55_eq, ha, hb, Tr.val, cond_true, cond_false, Bool.not_false, Bool.not_true]
    decide
  | true =>
  cases hc : (decide (0 ≤ rc) && decide (rc ≤ 9)) with
  | false =>
    left
    unfold w29_0 t29
    simp only [g55_true, w55_eq, ha, hb, hc, Tr.val, cond_true, cond_false, Bool.not_false, Bool.not_true]
    decide
  | true =>
  cases h : decide ((ps.length : Int) > 10) with
  | true =>
    left
    unfold w29_0 t29
    simp only [g55_true, w55_eq, ha, hb, hc, h, Tr.val, cond_true, cond_false, Bool.not_true]
    decide
  | false =>
  have hl : ps.length ≤ 10 := by have := of_decide_eq_false h; omega
  obtain ⟨y, hy, hy1, hy0⟩ := loopA ra rb rc hl
  obtain ⟨z, hz, hz0⟩ := loopB ra rb rc hl
  have val : ∀ ra' rb', (decide (0 ≤ ra') && decide (ra' ≤ 2000)) = true → (decide (0 ≤ rb') && decide (rb' ≤ 9)) = true → w29_0 ra' rb' rc ps = (match y with
      | .x0 a _ _ => a
      | .x1 _ _ => match z with
        | .x0 a _ => a
        | .x1 _ => 0) := by
    intro ra' rb' ha' hb'
    have hy' : r29a ra' rb' rc ps 0 ps (ps.length : Int) 0 [] = some y := hy
    have hz' : r29b ra' rb' rc ps 0 ps (ps.length : Int) 0 = some z := hz
    unfold w29_0 t29
    simp only [g55_true, w55_eq, ha', hb', hc, h, Tr.val, cond_true, cond_false, Bool.not_true]
    unfold i29a_0 i29a_1 i29b_0 i29b_1 v29a_0_t2' v29b_0_t2'
    rw [hy', hz']
    cases y <;> cases z <;> rfl
  have v0 := val ra rb ha hb
  simp only [Bool.and_eq_true, decide_eq_true_eq] at ha hb hc
  cases y with
  | x0 a t m => left; rw [v0]; exact hy0 a t m rfl
  | x1 t m =>
    cases z with
    | x0 a t' => left; rw [v0]; exact hz0 a t' rfl
    | x1 t' =>
      right
      exact ⟨⟨ha, hb, hc, hy1 t m rfl⟩, fun ra' rb' h1 h2 h3 h4 => val ra' rb' (by simp [h1, h2]) (by simp [h3, h4])⟩
end Go.Proofs.Ytgifjphinkbcaaa

set_option maxRecDepth 100000
set_option linter.unusedVariables false
namespace Go.Proofs.Ytgifjphinkbcaaa
open Go Go.Ev
theorem of_tab {N n b : Nat} {T : Nat → Nat → Int} (hn : n < N) (hb : b < 10) : g51 (tab N T) (n : Int) (b : Int) = true ∧ w51_0 (tab N T) (n : Int) (b : Int) = T n b := by
  have c := cts91 hb
  have i1 : inb (n : Int) N = true := by simp [inb_nat, hn]
  have i2 : inb (b : Int) 10 = true := by simp [inb_nat, hb]
  simp only [Int.toNat_natCast, Nat.zero_add, Nat.mul_one] at c
  unfold g51 w51_0 t51
  simp only [tab_len, i1, i2, Int.toNat_natCast, Nat.zero_add, Nat.mul_one, c, Tr.g, Tr.val, cond_true, tab_get hn, tabR_get hb, and_self]
theorem ways_err {ra rb rc : Int} {ps : List (List AV)} (h : w29_0 ra rb rc ps ≠ 0) : g20 ra rb rc ps = true ∧ w20_1 ra rb rc ps ≠ 0 := by
  have hb : (w29_0 ra rb rc ps != 0) = true := by simpa using h
  have h1 : g50 ra rb rc ps = true := by
    unfold g50 t50
    rw [g29_true, hb]; rfl
  have h2 : w50_1 ra rb rc ps = w29_0 ra rb rc ps := by
    unfold w50_1 t50
    rw [g29_true, hb]; rfl
  unfold g20 w20_1 t20
  rw [h1, h2, hb]
  exact ⟨rfl, h⟩
theorem ways_val {ps : List (List AV)} {n b c : Nat} (hps : okPs ps) (hn : n ≤ 2000) (hb : b < 10) (hc : c < 10) (hw : w29_0 (n : Int) (b : Int) (c : Int) ps = 0) :
    g20 (n : Int) (b : Int) (c : Int) ps = true ∧ ((tabs ps c n n b > 1000000000000000 ∧ w20_1 (n : Int) (b : Int) (c : Int) ps = 3 ∧ w20_0 (n : Int) (b : Int) (c : Int) ps = 0) ∨ (tabs ps c n n b ≤ 1000000000000000 ∧ w20_1 (n : Int) (b : Int) (c : Int) ps = 0 ∧ w20_0 (n : Int) (b : Int) (c : Int) ps = tabs ps c n n b)) := by
  obtain ⟨c1, c2⟩ := count_val (rb := (b : Int)) hps hn hc
  obtain ⟨o1, o2⟩ := of_tab (N := n + 1) (n := n) (b := b) (T := tabs ps c n) (by omega) hb
  have p0 : w52_0 (n : Int) (b : Int) (c : Int) ps = (n : Int) := rfl
  have p1 : w52_1 (n : Int) (b : Int) (c : Int) ps = (b : Int) := rfl
  have hz : (w29_0 (n : Int) (b : Int) (c : Int) ps != 0) = false := by simp [hw]
  cases hd : decide (tabs ps c n n b > 1000000000000000) with
  | true =>
    have h1 : g50 (n : Int) (b : Int) (c : Int) ps = true := by
      unfold g50 t50
      simp only [g29_true, hz, c1, c2, p0, p1, o1, o2, hd, Tr.g, cond_true, cond_false]
    have h2 : w50_1 (n : Int) (b : Int) (c : Int) ps = 3 := by
      unfold w50_1 t50
      simp only [g29_true, hz, c1, c2, p0, p1, o1, o2, hd, Tr.val, cond_true, cond_false]
    unfold g20 w20_1 w20_0 t20
    rw [h1, h2]
    exact ⟨rfl, .inl ⟨of_decide_eq_true hd, rfl, rfl⟩⟩
  | false =>
    have h1 : g50 (n : Int) (b : Int) (c : Int) ps = true := by
      unfold g50 t50
      simp only [g29_true, hz, c1, c2, p0, p1, o1, o2, hd, Tr.g, cond_true, cond_false]
    have h2 : w50_1 (n : Int) (b : Int) (c : Int) ps = 0 := by
      unfold w50_1 t50
      simp only [g29_true, hz, c1, c2, p0, p1, o1, o2, hd, Tr.val, cond_true, cond_false]
    have h3 : w50_0 (n : Int) (b : Int) (c : Int) ps = tab (n + 1) (tabs ps c n) := by
      unfold w50_0 t50
      simp only [g29_true, hz, c1, c2, p0, p1, o1, o2, hd, Tr.val, cond_true, cond_false]
    have hz2 : ((0 : Int) != 0) = false := by decide
    unfold g20 w20_1 w20_0 t20
    simp only [h1, h2, h3, hz2, p0, p1, o1, o2, Tr.g, Tr.val, cond_true, cond_false]
    exact ⟨trivial, .inr ⟨by have := of_decide_eq_false hd; omega, trivial, trivial⟩⟩
end Go.Proofs.Ytgifjphinkbcaaa

set_option maxRecDepth 100000
set_option linter.unusedVariables false
namespace Go.Proofs.Ytgifjphinkbcaaa
open Go Go.Ev
def acc (T : Nat → Nat → Int) (i h : Nat) (a : Int) (p : List AV) : Int := if pA p = h ∧ pL p ≤ i then bmin (a + T (i - pL p) (pB p)) cap else a
theorem lvlP_other {i n : Nat} {T : Nat → Nat → Int} {p : List AV} (h : n ≠ i) : lvlP i T p n = T n := by
  unfold lvlP lvl1
  split
  · unfold upd2
    rw [if_neg h]
  · rfl
theorem lvl_other (ps : List (List AV)) {i n : Nat} (h : n ≠ i) : ∀ {T : Nat → Nat → Int}, lvl ps i T n = T n := by
  induction ps with
  | nil => intro T; rfl
  | cons p ps ih =>
    intro T
    show lvl ps i (lvlP i T p) n = T n
    rw [ih, lvlP_other h]
theorem acc_congr {T T' : Nat → Nat → Int} {i h : Nat} {ps : List (List AV)} (hps : ∀ p, p ∈ ps → 1 ≤ pL p) (hT : ∀ n, n < i → T n = T' n) : ∀ a, ps.foldl (acc T i h) a = ps.foldl (acc T' i h) a := by
  induction ps with
  | nil => intro a; rfl
  | cons p ps ih =>
    intro a
    have hp := hps p (by simp)
    have e : acc T i h a p = acc T' i h a p := by
      unfold acc
      split
      · rename_i hc
        rw [hT (i - pL p) (by omega)]
      · rfl
    simp only [List.foldl_cons, e]
    exact ih (fun q hq => hps q (by simp [hq])) _
theorem lvl_row {i h : Nat} {ps : List (List AV)} (hps : ∀ p, p ∈ ps → 1 ≤ pL p) : ∀ {T : Nat → Nat → Int}, lvl ps i T i h = ps.foldl (acc T i h) (T i h) := by
  induction ps with
  | nil => intro T; rfl
  | cons p ps ih =>
    intro T
    have hp := hps p (by simp)
    have hps' : ∀ q, q ∈ ps → 1 ≤ pL q := fun q hq => hps q (by simp [hq])
    show lvl ps i (lvlP i T p) i h = ps.foldl (acc T i h) (acc T i h (T i h) p)
    rw [ih hps', acc_congr hps' (T' := T) (fun n hn => lvlP_other (by omega))]
    congr 1
    unfold lvlP lvl1 acc
    by_cases h1 : pL p ≤ i
    · rw [if_pos h1]
      unfold upd2
      rw [if_pos rfl]
      unfold upd
      by_cases h2 : pA p = h
      · rw [if_pos h2.symm, if_pos ⟨h2, h1⟩, h2]
      · rw [if_neg (fun e => h2 e.symm), if_neg (fun e => h2 e.1)]
    · rw [if_neg h1, if_neg (fun e => h1 e.2)]
theorem tabs_zero (ps : List (List AV)) (c : Nat) : ∀ (i n h : Nat), i < n → tabs ps c i n h = 0
  | 0, n, h, hn => by
    show T0 c n h = 0
    unfold T0 upd2
    rw [if_neg (by omega)]
  | i + 1, n, h, hn => by
    show lvl ps (i + 1) (tabs ps c i) n h = 0
    rw [lvl_other ps (by omega)]
    exact tabs_zero ps c i n h (by omega)
theorem tabs_stable (ps : List (List AV)) (c : Nat) {n : Nat} : ∀ {m : Nat}, n ≤ m → tabs ps c m n = tabs ps c n n
  | 0, h => by
    have : n = 0 := by omega
    subst this; rfl
  | m + 1, h => by
    rcases Nat.eq_or_lt_of_le h with e | e
    · rw [e]
    · show lvl ps (m + 1) (tabs ps c m) n = _
      rw [lvl_other ps (by omega)]
      exact tabs_stable ps c (by omega)
/-- How many ways there are, of a length and from a height. -/
def cnt (ps : List (List AV)) (c n h : Nat) : Int := tabs ps c n n h
theorem cnt_rec {ps : List (List AV)} {c n h : Nat} (hps : okPs ps) : cnt ps c (n + 1) h = ps.foldl (acc (fun k => cnt ps c k) (n + 1) h) 0 := by
  have hp : ∀ p, p ∈ ps → 1 ≤ pL p := fun p hm => by
    obtain ⟨h1, _⟩ := hps.2 p hm
    unfold pL; omega
  show lvl ps (n + 1) (tabs ps c n) (n + 1) h = _
  rw [lvl_row hp, tabs_zero ps c n (n + 1) h (by omega)]
  refine acc_congr hp (fun k hk => ?_) 0
  funext h'
  show tabs ps c n k h' = tabs ps c k k h'
  rw [tabs_stable ps c (by omega)]
theorem cnt_ok (ps : List (List AV)) (c n h : Nat) : 0 ≤ cnt ps c n h ∧ cnt ps c n h ≤ cap := tabs_ok ps c n n h
/-- Partial sums never go down; where the last one is small, none has been cut. -/
theorem acc_mono {T : Nat → Nat → Int} {i h : Nat} (hT : okT T) {a : Int} (ha : a ≤ cap) (p : List AV) : a ≤ acc T i h a p ∧ acc T i h a p ≤ cap := by
  unfold acc
  split
  · have := hT (i - pL p) (pB p)
    rw [bmin_le]
    split <;> omega
  · exact ⟨Int.le_refl _, ha⟩
theorem acc_fold {T : Nat → Nat → Int} {i h : Nat} (hT : okT T) : ∀ (ps : List (List AV)) {a : Int}, a ≤ cap → a ≤ ps.foldl (acc T i h) a ∧ ps.foldl (acc T i h) a ≤ cap
  | [], a, ha => ⟨Int.le_refl _, ha⟩
  | p :: ps, a, ha => by
    obtain ⟨h1, h2⟩ := acc_mono (i := i) (h := h) hT ha p
    obtain ⟨h3, h4⟩ := acc_fold (i := i) (h := h) hT ps h2
    exact ⟨Int.le_trans h1 h3, h4⟩
end Go.Proofs.Ytgifjphinkbcaaa
