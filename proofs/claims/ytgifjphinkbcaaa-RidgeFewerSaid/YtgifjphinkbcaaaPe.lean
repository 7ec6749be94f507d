/-
  The evaluator, its soundness, and the functions that several laws reach: what they compute, for all arguments; no conditions.
-/
import Derived.Test.YtgifjphinkbcaaaPd
import Derived.Test.YtgifjphinkbcaaaPc
set_option linter.unusedVariables false
set_option maxRecDepth 100000
set_option linter.unusedVariables false
namespace Go.Proofs.Ytgifjphinkbcaaa
open Go Go.Ev
/-! ### Patterns as vectors -/
/-- What so many of each kind take of a rod. -/
def DD (db : Int) (cs : List (List AV)) (f : Nat → Int) : Nat → Int
  | 0 => 0
  | n + 1 => DD db cs f n + f n * (ln cs n + db)
theorem DD_congr {db : Int} {cs : List (List AV)} {f g : Nat → Int} : ∀ {n : Nat}, (∀ i, i < n → f i = g i) → DD db cs f n = DD db cs g n
  | 0, _ => rfl
  | n + 1, h => by
    show DD db cs f n + f n * _ = DD db cs g n + g n * _
    rw [DD_congr (n := n) (fun i hi => h i (by omega)), h n (by omega)]
theorem DD_mono {db : Int} {cs : List (List AV)} {f : Nat → Int} {j : Nat} : ∀ {n : Nat}, j ≤ n → (∀ i, j ≤ i → i < n → 0 ≤ f i ∧ 0 ≤ ln cs i + db) → DD db cs f j ≤ DD db cs f n
  | 0, h, _ => by
    obtain rfl : j = 0 := by omega
    exact Int.le_refl _
  | n + 1, h, hh => by
    rcases Nat.eq_or_lt_of_le h with rfl | h
    · exact Int.le_refl _
    · have h1 := DD_mono (db := db) (cs := cs) (f := f) (n := n) (by omega) (fun i h1 h2 => hh i h1 (by omega))
      obtain ⟨a, b⟩ := hh n (by omega) (by omega)
      have := Int.mul_nonneg a b
      show _ ≤ DD db cs f n + f n * (ln cs n + db)
      omega
section
variable {da db : Int} {cs : List (List AV)} {ms : List AV}
abbrev fX (X : List AV) : Nat → Int := fun i => fI X i
def VecF (db : Int) (cs : List (List AV)) (ms : List AV) (j : Nat) (room : Int) (X : List AV) (l : List (List AV)) : Prop :=
  (∀ e, e ∈ l → ∃ Y, e = enc8 Y ∧ (∀ i, i < j ∨ cs.length ≤ i → fI Y i = fI X i) ∧ (∀ i, j ≤ i → i < cs.length → 0 ≤ fI Y i ∧ fI Y i ≤ fI ms i) ∧ DD db cs (fX Y) cs.length - DD db cs (fX Y) j ≤ room) ∧
  ∀ f : Nat → Int, (∀ i, j ≤ i → i < cs.length → 0 ≤ f i ∧ f i ≤ fI ms i) → DD db cs f cs.length - DD db cs f j ≤ room → ∃ e, e ∈ l ∧ ∃ Y, e = enc8 Y ∧ (∀ i, i < j ∨ cs.length ≤ i → fI Y i = fI X i) ∧ ∀ i, j ≤ i → i < cs.length → fI Y i = f i
def VecT (db : Int) (cs : List (List AV)) (ms : List AV) (j : Nat) (room : Int) (X : List AV) (l : List (List AV)) : Prop :=
  (∀ e, e ∈ l → ∃ Y, e = enc8 Y ∧ (∀ i, i < j ∨ cs.length ≤ i → fI Y i = fI X i) ∧ (∀ i, j ≤ i → i < cs.length → 0 ≤ fI Y i ∧ fI Y i ≤ fI ms i) ∧ fI X j ≤ fI Y j ∧ DD db cs (fX Y) cs.length - DD db cs (fX Y) j - fI X j * (ln cs j + db) ≤ room) ∧
  ∀ f : Nat → Int, (∀ i, j ≤ i → i < cs.length → 0 ≤ f i ∧ f i ≤ fI ms i) → fI X j ≤ f j → DD db cs f cs.length - DD db cs f j - fI X j * (ln cs j + db) ≤ room → ∃ e, e ∈ l ∧ ∃ Y, e = enc8 Y ∧ (∀ i, i < j ∨ cs.length ≤ i → fI Y i = fI X i) ∧ ∀ i, j ≤ i → i < cs.length → fI Y i = f i
theorem PT_vec (hF : RFine da db cs) (hms : ∀ j, j < cs.length → 0 ≤ fI ms j ∧ fI ms j ≤ 12) {b : Bool} {j : Nat} {room : Int} {X X' : List AV} {l : List (List AV)} (h : PT db cs ms b j room X l X') :
    X.length = 8 → j ≤ cs.length → -200000 ≤ room → room ≤ 200000 → (b = false → 0 ≤ room → VecF db cs ms j room X l) ∧ (b = true → j < cs.length → 0 ≤ fI X j → VecT db cs ms j room X l) ∧ ((b = true → j < cs.length) → ∀ i, cs.length ≤ i → fI X' i = fI X i) := by
  have hN := hF.l
  have hsz : ∀ i, i < cs.length → 0 ≤ ln cs i + db := fun i hi => by
    have := hF.c i hi
    have := hF.b
    unfold okCut at *
    omega
  induction h with
  | @leaf room X =>
    intro hX hj r1 r2
    refine ⟨fun _ hr => ⟨fun e he => ?_, fun f hf1 hf2 => ?_⟩, fun h => (by cases h), fun _ _ _ => rfl⟩
    · rw [List.mem_singleton] at he
      exact ⟨X, he, fun _ _ => rfl, fun i h1 h2 => by omega, by omega⟩
    · exact ⟨enc8 X, by simp, X, rfl, fun _ _ => rfl, fun i h1 h2 => by omega⟩
  | @node j room X X' l h1 h2 h3 ih =>
    intro hX hj r1 r2
    have hx0 : fI (setCs X j [.i .i64 0]) j = 0 := by rw [fI_set (by omega), if_pos rfl]
    obtain ⟨_, c3, c4⟩ := ih (by rw [set_len]; exact hX) hj r1 r2
    obtain ⟨c1, c2⟩ := c3 rfl h1 (by rw [hx0]; exact Int.le_refl _)
    have hag : ∀ i, i < j ∨ cs.length ≤ i → fI (setCs X j [.i .i64 0]) i = fI X i := fun i hi => by rw [fI_set (by omega), if_neg (by omega)]
    obtain ⟨k1, k2⟩ := PT_keep h3 (by rw [set_len]; exact hX) (by omega) (fun _ => h2)
    rw [hx0] at c1 c2
    refine ⟨fun _ hr => ⟨fun e he => ?_, fun f hf1 hf2 => ?_⟩, fun h => (by cases h), fun _ i hi => ?_⟩
    · obtain ⟨Y, e1, e2, e3, e4, e5⟩ := c1 e he
      exact ⟨Y, e1, fun i hi => (e2 i hi).trans (hag i hi), e3, by omega⟩
    · obtain ⟨e, he, Y, e1, e2, e3⟩ := c2 f hf1 (hf1 j (Nat.le_refl _) h1).1 (by omega)
      exact ⟨e, he, Y, e1, fun i hi => (e2 i hi).trans (hag i hi), e3⟩
    · rw [fI_set (by omega), if_neg (by omega), c4 (fun _ => h1) i hi, hag i (.inr hi)]
  | @stop j room X h =>
    intro hX hj r1 r2
    refine ⟨fun h => (by cases h), fun _ hjN hx => ⟨fun e he => (by cases he), fun f hf1 hf2 hf3 => ?_⟩, fun _ _ _ => rfl⟩
    exfalso
    have hm := DD_mono (db := db) (cs := cs) (f := f) (j := j + 1) (n := cs.length) (by omega) (fun i h1 h2 => ⟨(hf1 i (by omega) h2).1, hsz i h2⟩)
    have e1 : DD db cs f (j + 1) = DD db cs f j + f j * (ln cs j + db) := rfl
    have hz : 0 ≤ (f j - fI X j) * (ln cs j + db) := Int.mul_nonneg (by omega) (hsz j hjN)
    rw [Int.sub_mul] at hz
    have hfj := (hf1 j (Nat.le_refl _) hjN).2
    rw [decide_eq_true (show fI X j ≤ fI ms j by omega), decide_eq_true (show room ≥ 0 by omega)] at h
    cases h
  | @step j room X X1 X2 l1 l2 h1 h2 h3 h4 ih1 ih2 =>
    intro hX hj r1 r2
    have core : j < cs.length → (0 ≤ fI X j → VecT db cs ms j room X (l1 ++ l2)) ∧ ∀ i, cs.length ≤ i → fI X2 i = fI X i := by
      intro hjN
      have hc := hF.c j hjN
      have hb := hF.b
      unfold okCut at hc
      have hmj := hms j hjN
      obtain ⟨k1, k2⟩ := PT_keep h3 hX (by omega) (fun h => by cases h)
      have hxj : fI X1 j = fI X j := k2 j (by omega)
      obtain ⟨a0, _, a3⟩ := ih1 hX (by omega) r1 r2
      obtain ⟨a1, a2⟩ := a0 rfl h2
      have a3 := a3 (fun h => by cases h)
      have hwr : IntKind.i64.wrap (room - wid db cs j) = room - (ln cs j + db) := by rw [wid_eq hF hjN]; exact wrap64 (by omega) (by omega)
      rw [hwr] at ih2
      obtain ⟨_, b0, b3⟩ := ih2 (by rw [set_len]; exact k1) hj (by omega) (by omega)
      have b3 := b3 (fun _ => hjN)
      refine ⟨fun hx => ?_, fun i hi => ?_⟩
      · have hwk : IntKind.i64.wrap (fI X1 j + 1) = fI X j + 1 := by rw [hxj]; exact wrap64 (by omega) (by omega)
        rw [hwk] at b0
        have hx3 : fI (setCs X1 j [.i .i64 (fI X j + 1)]) j = fI X j + 1 := by rw [fI_set (by omega), if_pos rfl]
        obtain ⟨b1, b2⟩ := b0 rfl hjN (by rw [hx3]; omega)
        have hag : ∀ i, i < j ∨ cs.length ≤ i → fI (setCs X1 j [.i .i64 (fI X j + 1)]) i = fI X i := fun i hi => by
          rw [fI_set (by omega), if_neg (by omega)]
          rcases hi with hi | hi
          · exact k2 i (by omega)
          · exact a3 i hi
        rw [hx3] at b1 b2
        have hmul : (fI X j + 1) * (ln cs j + db) = fI X j * (ln cs j + db) + (ln cs j + db) := by rw [Int.add_mul, Int.one_mul]
        rw [hmul] at b1 b2
        refine ⟨fun e he => ?_, fun f hf1 hf2 hf3 => ?_⟩
        · rcases List.mem_append.1 he with he | he
          · obtain ⟨Y, e1, e2, e3, e4⟩ := a1 e he
            have ej : fI Y j = fI X j := e2 j (.inl (by omega))
            have es : DD db cs (fX Y) (j + 1) = DD db cs (fX Y) j + fI X j * (ln cs j + db) := by rw [← ej]; rfl
            refine ⟨Y, e1, fun i hi => e2 i (by omega), fun i h1' h2' => ?_, by omega, by omega⟩
            rcases Nat.eq_or_lt_of_le h1' with rfl | h'
            · omega
            · exact e3 i h' h2'
          · obtain ⟨Y, e1, e2, e3, e4, e5⟩ := b1 e he
            exact ⟨Y, e1, fun i hi => (e2 i hi).trans (hag i hi), e3, by omega, by omega⟩
        · rcases Int.lt_or_eq_of_le hf2 with hlt | heq
          · obtain ⟨e, he, Y, e1, e2, e3⟩ := b2 f hf1 (by omega) (by omega)
            exact ⟨e, List.mem_append.2 (.inr he), Y, e1, fun i hi => (e2 i hi).trans (hag i hi), e3⟩
          · have es : DD db cs f (j + 1) = DD db cs f j + fI X j * (ln cs j + db) := by rw [heq]; rfl
            obtain ⟨e, he, Y, e1, e2, e3⟩ := a2 f (fun i h1' h2' => hf1 i (by omega) h2') (by omega)
            refine ⟨e, List.mem_append.2 (.inl he), Y, e1, fun i hi => e2 i (by omega), fun i h1' h2' => ?_⟩
            rcases Nat.eq_or_lt_of_le h1' with rfl | h'
            · rw [e2 j (by omega)]; exact heq
            · exact e3 i h' h2'
      · rw [b3 i hi, fI_set (by omega), if_neg (by omega)]
        exact a3 i hi
    exact ⟨fun h => (by cases h), fun _ hjN hx => (core hjN).1 hx, fun h => (core (h rfl)).2⟩
theorem PT_ex2 (hF : RFine da db cs) (hms : ∀ j, j < cs.length → 0 ≤ fI ms j ∧ fI ms j ≤ 12) : ∀ (d j : Nat), cs.length - j = d → j ≤ cs.length → ∀ (room : Int) (X : List AV), X.length = 8 → ∃ l X', PT db cs ms false j room X l X'
  | 0, j, hd, hj, room, X, hX => by
    obtain rfl : j = cs.length := by omega
    exact ⟨_, _, .leaf⟩
  | d + 1, j, hd, hj, room, X, hX => by
    have hN := hF.l
    have hjN : j < cs.length := by omega
    have hc := hms j hjN
    have inner : ∀ (t : Nat) (room : Int) (X : List AV), X.length = 8 → 0 ≤ fI X j → fI ms j + 1 - fI X j ≤ (t : Int) → ∃ l X', PT db cs ms true j room X l X' := by
      intro t
      induction t with
      | zero =>
        intro room X hX hx ht
        refine ⟨[], X, .stop ?_⟩
        rw [decide_eq_false (by omega)]
        rfl
      | succ t ih =>
        intro room X hX hx ht
        cases hcond : (decide (fI X j ≤ fI ms j) && decide (room ≥ 0)) with
        | false => exact ⟨[], X, .stop hcond⟩
        | true =>
          rw [Bool.and_eq_true, decide_eq_true_eq, decide_eq_true_eq] at hcond
          obtain ⟨l1, X1, p1⟩ := PT_ex2 hF hms d (j + 1) (by omega) (by omega) room X hX
          obtain ⟨k1, k2⟩ := PT_keep p1 hX (by omega) (fun h => by cases h)
          have hxj : fI X1 j = fI X j := k2 j (by omega)
          have hle := hcond.1
          have hwk : IntKind.i64.wrap (fI X1 j + 1) = fI X j + 1 := by rw [hxj]; exact wrap64 (by omega) (by omega)
          have hx3 : fI (setCs X1 j [.i .i64 (IntKind.i64.wrap (fI X1 j + 1))]) j = fI X j + 1 := by rw [fI_set (by omega), if_pos rfl, hwk]
          obtain ⟨l2, X2, p2⟩ := ih (IntKind.i64.wrap (room - wid db cs j)) (setCs X1 j [.i .i64 (IntKind.i64.wrap (fI X1 j + 1))]) (by rw [set_len]; exact k1) (by rw [hx3]; omega) (by rw [hx3]; omega)
          exact ⟨l1 ++ l2, X2, .step hcond.1 hcond.2 p1 p2⟩
    obtain ⟨l, X', p⟩ := inner 14 room (setCs X j [.i .i64 0]) (by rw [set_len]; exact hX) (by rw [fI_set (by omega), if_pos rfl]; exact Int.le_refl _) (by rw [fI_set (by omega), if_pos rfl]; omega)
    exact ⟨l, _, .node hjN (by omega) p⟩
end
end Go.Proofs.Ytgifjphinkbcaaa

set_option maxRecDepth 100000
set_option linter.unusedVariables false
namespace Go.Proofs.Ytgifjphinkbcaaa
open Go Go.Ev
/-! ### The fewest patterns -/
section
variable {da db : Int} {cs : List (List AV)}
/-- What so many of each kind are split into: so many patterns. -/
inductive Cov (da db : Int) (cs : List (List AV)) : Nat → (Nat → Int) → Prop
  | nil {q : Nat → Int} : (∀ i, i < cs.length → q i = 0) → Cov da db cs 0 q
  | cons {k : Nat} {q : Nat → Int} (p : Nat → Int) : (∀ i, i < cs.length → 0 ≤ p i ∧ p i ≤ q i) → DD db cs p cs.length ≤ da + db → Cov da db cs k (fun i => q i - p i) → Cov da db cs (k + 1) q
theorem Cov.congr {k : Nat} {q r : Nat → Int} (h : Cov da db cs k q) : (∀ i, i < cs.length → q i = r i) → Cov da db cs k r := by
  induction h generalizing r with
  | nil h => exact fun e => .nil fun i hi => by rw [← e i hi]; exact h i hi
  | cons p h1 h2 h3 ih => exact fun e => .cons p (fun i hi => by rw [← e i hi]; exact h1 i hi) h2 (ih fun i hi => by show _ - p i = _ - p i; rw [e i hi])
theorem Cov.nn {k : Nat} {q : Nat → Int} (h : Cov da db cs k q) : ∀ i, i < cs.length → 0 ≤ q i := by
  induction h with
  | nil h => exact fun i hi => by rw [h i hi]; exact Int.le_refl _
  | cons p h1 h2 h3 ih => exact fun i hi => by have := h1 i hi; omega
theorem Cov.exch {k : Nat} {q : Nat → Int} (h : Cov da db cs k q) : ∀ i, i < cs.length → 0 < q i → ∃ k' p, k = k' + 1 ∧ (∀ i, i < cs.length → 0 ≤ p i ∧ p i ≤ q i) ∧ DD db cs p cs.length ≤ da + db ∧ 0 < p i ∧ Cov da db cs k' (fun i => q i - p i) := by
  induction h with
  | nil h => exact fun i hi h' => by rw [h i hi] at h'; omega
  | @cons k q p h1 h2 h3 ih =>
    intro i hi hq
    rcases Int.lt_or_le 0 (p i) with h | h
    · exact ⟨k, p, rfl, h1, h2, h, h3⟩
    · obtain ⟨k', p', rfl, g1, g2, g3, g4⟩ := ih i hi (by show 0 < q i - p i; omega)
      have g1 : ∀ j, j < cs.length → 0 ≤ p' j ∧ p' j ≤ q j - p j := g1
      refine ⟨k' + 1, p', rfl, fun j hj => ?_, g2, g3, .cons p (fun j hj => ?_) h2 (g4.congr fun j hj => ?_)⟩
      · have := h1 j hj; have := g1 j hj; omega
      · have := h1 j hj; have := g1 j hj; show 0 ≤ p j ∧ p j ≤ q j - p' j; omega
      · show q j - p j - p' j = q j - p' j - p j; omega
theorem DD_le {f g : Nat → Int} : ∀ {n : Nat}, (∀ i, i < n → f i ≤ g i ∧ 0 ≤ ln cs i + db) → DD db cs f n ≤ DD db cs g n
  | 0, _ => Int.le_refl _
  | n + 1, h => by
    have h1 := DD_le (n := n) (fun i hi => h i (by omega))
    obtain ⟨a, b⟩ := h n (by omega)
    have := Int.mul_le_mul_of_nonneg_right a b
    show DD db cs f n + f n * _ ≤ DD db cs g n + g n * _
    omega
theorem DD_zero {f : Nat → Int} : ∀ {n : Nat}, (∀ i, i < n → f i = 0) → DD db cs f n = 0
  | 0, _ => rfl
  | n + 1, h => by
    show DD db cs f n + f n * _ = 0
    rw [DD_zero (n := n) (fun i hi => h i (by omega)), h n (by omega), Int.zero_mul]; rfl
theorem DD_add {f g : Nat → Int} : ∀ {n : Nat}, DD db cs (fun i => f i + g i) n = DD db cs f n + DD db cs g n
  | 0 => rfl
  | n + 1 => by
    show DD db cs _ n + (f n + g n) * _ = DD db cs f n + f n * _ + (DD db cs g n + g n * _)
    rw [DD_add (n := n), Int.add_mul]
    omega
def e1 (c : Nat) : Nat → Int := fun i => if i = c then 1 else 0
theorem DD_e1 {c : Nat} : ∀ {n : Nat}, DD db cs (e1 c) n = if c < n then ln cs c + db else 0
  | 0 => rfl
  | n + 1 => by
    show DD db cs (e1 c) n + (if n = c then 1 else 0) * _ = _
    rw [DD_e1 (n := n)]
    by_cases h : n = c
    · subst h
      rw [if_neg (by omega), if_pos rfl, if_pos (by omega)]; omega
    · rw [if_neg h, Int.zero_mul, Int.add_zero]
      by_cases h2 : c < n
      · rw [if_pos h2, if_pos (by omega)]
      · rw [if_neg h2, if_neg (by omega)]
theorem sz_pos (hF : RFine da db cs) : ∀ i, i < cs.length → 0 < ln cs i + db := fun i hi => by
  have := hF.c i hi
  have := hF.b
  unfold okCut at *
  omega
theorem Cov.more (hF : RFine da db cs) {k : Nat} {q : Nat → Int} (h : Cov da db cs k q) : Cov da db cs (k + 1) q := by
  refine .cons (fun _ => 0) (fun i hi => ⟨Int.le_refl _, h.nn i hi⟩) ?_ (h.congr fun i hi => by omega)
  rw [DD_zero fun _ _ => rfl]
  have := hF.a
  have := hF.b
  omega
theorem Cov.up (hF : RFine da db cs) {k k' : Nat} {q : Nat → Int} (h : Cov da db cs k q) : k ≤ k' → Cov da db cs k' q := by
  intro hk
  obtain ⟨d, rfl⟩ := Nat.exists_eq_add_of_le hk
  clear hk
  induction d with
  | zero => exact h
  | succ d ih => exact ih.more hF
theorem Cov.sub (hF : RFine da db cs) {k : Nat} {q : Nat → Int} (h : Cov da db cs k q) : ∀ {r : Nat → Int}, (∀ i, i < cs.length → 0 ≤ r i ∧ r i ≤ q i) → Cov da db cs k r := by
  induction h with
  | nil h => exact fun e => .nil fun i hi => by have := e i hi; have := h i hi; omega
  | @cons k q p h1 h2 h3 ih =>
    intro r e
    refine .cons (fun i => if p i ≤ r i then p i else r i) (fun i hi => ?_) (Int.le_trans (DD_le fun i hi => ⟨?_, Int.le_of_lt (sz_pos hF i hi)⟩) h2) (ih fun i hi => ?_)
    · have := e i hi; have := h1 i hi
      split <;> omega
    · have := e i hi; have := h1 i hi
      split <;> omega
    · have := e i hi; have := h1 i hi
      show 0 ≤ r i - (if p i ≤ r i then p i else r i) ∧ r i - (if p i ≤ r i then p i else r i) ≤ q i - p i
      split <;> omega
/-- All together. -/
def TT (q : Nat → Int) : Nat → Int
  | 0 => 0
  | n + 1 => TT q n + q n
theorem TT_congr {q r : Nat → Int} : ∀ {n : Nat}, (∀ i, i < n → q i = r i) → TT q n = TT r n
  | 0, _ => rfl
  | n + 1, h => by
    show TT q n + q n = TT r n + r n
    rw [TT_congr (n := n) (fun i hi => h i (by omega)), h n (by omega)]
theorem TT_sub {q r : Nat → Int} : ∀ {n : Nat}, TT (fun i => q i - r i) n = TT q n - TT r n
  | 0 => rfl
  | n + 1 => by
    show TT _ n + (q n - r n) = TT q n + q n - (TT r n + r n)
    rw [TT_sub (n := n)]
    omega
theorem TT_nn {q : Nat → Int} : ∀ {n : Nat}, (∀ i, i < n → 0 ≤ q i) → 0 ≤ TT q n ∧ ∀ i, i < n → q i ≤ TT q n
  | 0, _ => ⟨Int.le_refl _, fun i hi => by omega⟩
  | n + 1, h => by
    obtain ⟨a, b⟩ := TT_nn (n := n) (fun i hi => h i (by omega))
    have hn := h n (by omega)
    refine ⟨by show 0 ≤ TT q n + q n; omega, fun i hi => ?_⟩
    show q i ≤ TT q n + q n
    rcases Nat.lt_succ_iff_lt_or_eq.1 hi with h' | rfl
    · have := b i h'; omega
    · omega
theorem TT_e1 {c : Nat} : ∀ {n : Nat}, TT (e1 c) n = if c < n then 1 else 0
  | 0 => rfl
  | n + 1 => by
    show TT (e1 c) n + (if n = c then 1 else 0) = _
    rw [TT_e1 (n := n)]
    by_cases h : n = c
    · subst h
      rw [if_neg (by omega), if_pos rfl, if_pos (by omega)]; rfl
    · rw [if_neg h, Int.add_zero]
      by_cases h2 : c < n
      · rw [if_pos h2, if_pos (by omega)]
      · rw [if_neg h2, if_neg (by omega)]
theorem TT_first {q : Nat → Int} : ∀ {n : Nat}, 0 < TT q n → ∃ i, i < n ∧ 0 < q i
  | 0, h => by simp [TT] at h
  | n + 1, h => by
    have h : 0 < TT q n + q n := h
    rcases Int.lt_or_le 0 (q n) with h' | h'
    · exact ⟨n, by omega, h'⟩
    · obtain ⟨i, h1, h2⟩ := TT_first (n := n) (q := q) (by omega)
      exact ⟨i, by omega, h2⟩
theorem one_fits (hF : RFine da db cs) {i : Nat} (hi : i < cs.length) : DD db cs (e1 i) cs.length ≤ da + db := by
  rw [DD_e1, if_pos hi]
  have := hF.f i hi
  omega
theorem Cov.single (hF : RFine da db cs) : ∀ (n : Nat) (q : Nat → Int), (∀ i, i < cs.length → 0 ≤ q i) → TT q cs.length = (n : Int) → Cov da db cs n q
  | 0, q, h, ht => .nil fun i hi => by
    have := (TT_nn h).2 i hi
    have := h i hi
    omega
  | n + 1, q, h, ht => by
    obtain ⟨i, hi, hq⟩ := TT_first (q := q) (n := cs.length) (by omega)
    refine .cons (e1 i) (fun j hj => ?_) (one_fits hF hi) (Cov.single hF n _ (fun j hj => ?_) ?_)
    · have := h j hj
      unfold e1
      split
      · rename_i e; subst e; omega
      · omega
    · have := h j hj
      show 0 ≤ q j - e1 i j
      unfold e1
      split
      · rename_i e; subst e; omega
      · omega
    · rw [TT_sub, TT_e1, if_pos hi]
      omega
theorem least_of {P : Nat → Prop} {n : Nat} (h : P n) : ∃ k, P k ∧ ∀ j, P j → k ≤ j := by
  have key : ∀ d n, n ≤ d → P n → ∃ k, P k ∧ ∀ j, P j → k ≤ j := by
    intro d
    induction d with
    | zero => intro n hn h; exact ⟨n, h, fun j _ => by omega⟩
    | succ d ih =>
      intro n hn h
      by_cases hs : ∃ j, j < n ∧ P j
      · obtain ⟨j, hj, hp⟩ := hs
        exact ih j (by omega) hp
      · exact ⟨n, h, fun j hj => by
          rcases Nat.lt_or_ge j n with h' | h'
          · exact absurd ⟨j, h', hj⟩ hs
          · exact h'⟩
  exact key n n (Nat.le_refl _) h
open Classical in
/-- The fewest. -/
noncomputable def mq (da db : Int) (cs : List (List AV)) (q : Nat → Int) : Nat := if h : ∃ k, Cov da db cs k q ∧ ∀ j, Cov da db cs j q → k ≤ j then h.choose else 0
theorem mq_ok (hF : RFine da db cs) {q : Nat → Int} (h : ∀ i, i < cs.length → 0 ≤ q i) : Cov da db cs (mq da db cs q) q ∧ (∀ j, Cov da db cs j q → mq da db cs q ≤ j) ∧ (mq da db cs q : Int) ≤ TT q cs.length := by
  have hn := (TT_nn h).1
  have hs := Cov.single hF (TT q cs.length).toNat q h (by omega)
  have hex := least_of (P := fun k => Cov da db cs k q) hs
  have e : mq da db cs q = hex.choose := by unfold mq; rw [dif_pos hex]
  rw [e]
  refine ⟨hex.choose_spec.1, hex.choose_spec.2, ?_⟩
  have := hex.choose_spec.2 _ hs
  omega
theorem mq_congr (hF : RFine da db cs) {q r : Nat → Int} (h : ∀ i, i < cs.length → 0 ≤ q i) (e : ∀ i, i < cs.length → q i = r i) : mq da db cs q = mq da db cs r := by
  obtain ⟨a1, a2, _⟩ := mq_ok hF h
  obtain ⟨b1, b2, _⟩ := mq_ok hF (q := r) (fun i hi => by rw [← e i hi]; exact h i hi)
  have := a2 _ (b1.congr fun i hi => (e i hi).symm)
  have := b2 _ (a1.congr e)
  omega
theorem mq_zero (hF : RFine da db cs) {q : Nat → Int} (h : ∀ i, i < cs.length → q i = 0) : mq da db cs q = 0 := by
  have := (mq_ok hF (q := q) (fun i hi => by rw [h i hi]; exact Int.le_refl _)).2.1 0 (.nil h)
  omega
/-- One pattern taken away. -/
theorem mq_le (hF : RFine da db cs) {q p : Nat → Int} (h : ∀ i, i < cs.length → 0 ≤ p i ∧ p i ≤ q i) (hp : DD db cs p cs.length ≤ da + db) : mq da db cs q ≤ mq da db cs (fun i => q i - p i) + 1 := by
  obtain ⟨a1, a2, _⟩ := mq_ok hF (q := q) (fun i hi => by have := h i hi; omega)
  obtain ⟨b1, b2, _⟩ := mq_ok hF (q := fun i => q i - p i) (fun i hi => by have := h i hi; omega)
  exact a2 _ (.cons p h hp b1)
/-- The one with a kind that is wanted. -/
theorem mq_ex (hF : RFine da db cs) {q : Nat → Int} (h : ∀ i, i < cs.length → 0 ≤ q i) {i : Nat} (hi : i < cs.length) (hq : 0 < q i) : ∃ p, (∀ i, i < cs.length → 0 ≤ p i ∧ p i ≤ q i) ∧ DD db cs p cs.length ≤ da + db ∧ 0 < p i ∧ mq da db cs q = mq da db cs (fun i => q i - p i) + 1 := by
  obtain ⟨a1, a2, _⟩ := mq_ok hF h
  obtain ⟨k', p, e, g1, g2, g3, g4⟩ := a1.exch i hi hq
  refine ⟨p, g1, g2, g3, ?_⟩
  have h1 := mq_le hF g1 g2
  obtain ⟨b1, b2, _⟩ := mq_ok hF (q := fun i => q i - p i) (fun i hi => by have := g1 i hi; omega)
  have := b2 _ g4
  omega
theorem mq_pos (hF : RFine da db cs) {q : Nat → Int} (h : ∀ i, i < cs.length → 0 ≤ q i) {i : Nat} (hi : i < cs.length) (hq : 0 < q i) : 0 < mq da db cs q := by
  obtain ⟨p, _, _, _, e⟩ := mq_ex hF h hi hq
  omega
end
end Go.Proofs.Ytgifjphinkbcaaa

set_option maxRecDepth 100000
set_option linter.unusedVariables false
namespace Go.Proofs.Ytgifjphinkbcaaa
open Go Go.Ev
/-! ### Rows of eight -/
def row8 (f : Nat → Int) : List AV := (List.range 8).map fun h => .i .i64 (f h)
theorem row8_get {f : Nat → Int} {h : Nat} (hh : h < 8) : fI (row8 f) h = f h := by
  show toI ((row8 f).getD h .u) = f h
  simp [row8, List.getD_eq_getElem?_getD, hh, toI]
theorem row8_set {f : Nat → Int} {h : Nat} {v : Int} (hh : h < 8) : (row8 f).set h (.i .i64 v) = row8 (upd f h v) := by
  apply List.ext_getElem
  · simp [row8]
  · intro i h1 h2
    have hi : i < 8 := by simpa [row8] using h1
    simp only [row8, List.getElem_set, List.getElem_map, List.getElem_range, upd]
    by_cases e : h = i
    · subst e; simp
    · simp [e, Ne.symm e]
theorem cts104 {A : Nat} (h : A < 8) : ctsAt (cts Try.prog 104) (0 + ((A : Nat) : Int).toNat * 1) (cts Try.prog 3) = true := by
  rcases A with _ | _ | _ | _ | _ | _ | _ | _ | A
  all_goals first | (exfalso; omega) | kernel_rfl
theorem cts8 {A : Nat} (h : A < 8) : ctsAt [CT.int IntKind.i64, CT.int IntKind.i64, CT.int IntKind.i64, CT.int IntKind.i64, CT.int IntKind.i64, CT.int IntKind.i64, CT.int IntKind.i64, CT.int IntKind.i64] (0 + ((A : Nat) : Int).toNat * 1) (cts Try.prog 3) = true := by
  rcases A with _ | _ | _ | _ | _ | _ | _ | _ | A
  all_goals first | (exfalso; omega) | kernel_rfl
def mw (cs : List (List AV)) (i : Nat) : Int := if i < cs.length then mn cs i else 0
def mwTo (cs : List (List AV)) (k i : Nat) : Int := if i < k then mn cs i else 0
theorem wanted_run {cs : List (List AV)} (hl : cs.length ≤ 8) : ∃ a, r77a cs (cs.length : Int) 0 0 0 0 0 0 0 0 0 (row8 fun _ => 0) = some (.x0 a (row8 (mw cs))) := by
  have run : ∃ y, r77a cs (cs.length : Int) 0 0 0 0 0 0 0 0 0 (row8 (mwTo cs 0)) = some y ∧ ∃ a, y = .x0 a (row8 (mw cs)) := by
    unfold r77a
    refine run_for (S := Unit) cs.length (fun k _ => (⟨(k : Int), row8 (mwTo cs k)⟩ : S77a)) (fun _ _ => True) (fun _ _ (y : T77a) => ∃ a, y = .x0 a (row8 (mw cs))) (fun k _ hk _ => ?_) (fun _ _ => ?_) 0 () (Nat.zero_le _) trivial
    · left
      refine ⟨(), ?_, trivial, fun y hy => hy⟩
      show stp77a cs (cs.length : Int) 0 0 0 0 0 0 0 0 (k : Int) (row8 (mwTo cs k)) = _
      unfold stp77a
      have h8 : k < 8 := by omega
      have c := cts104 h8
      have e0 : fI (cs.getD k []) 1 = mn cs k := rfl
      have e1 : Nat.blt 0 [row8 (mwTo cs k)].length = true := rfl
      have e2 : [row8 (mwTo cs k)].getD 0 [] = row8 (mwTo cs k) := rfl
      rw [lt_true hk, inb_true hk, inb_true h8, c, e1, e2, Int.toNat_natCast, e0, wrap_succ (by omega), Nat.zero_add, Nat.mul_one]
      have e3 : setCs (row8 (mwTo cs k)) k [AV.i IntKind.i64 (mn cs k)] = row8 (mwTo cs (k + 1)) := by
        show (row8 (mwTo cs k)).set k (.i .i64 (mn cs k)) = _
        rw [row8_set h8]
        congr 1
        funext i
        unfold upd mwTo
        by_cases e : i = k
        · subst e
          rw [if_pos rfl, if_pos (by omega)]
        · rw [if_neg e]
          by_cases h' : i < k
          · rw [if_pos h', if_pos (by omega)]
          · rw [if_neg h', if_neg (by omega)]
      rw [e3]
      rfl
    · refine ⟨.x0 (cs.length : Int) (row8 (mw cs)), ?_, _, rfl⟩
      show stp77a cs (cs.length : Int) 0 0 0 0 0 0 0 0 (cs.length : Int) (row8 (mwTo cs cs.length)) = _
      unfold stp77a
      rw [lt_false]; rfl
  obtain ⟨y, h1, a, h2⟩ := run
  refine ⟨a, ?_⟩
  have e : row8 (mwTo cs 0) = row8 fun _ => 0 := by
    congr 1
  rw [← e, h1, h2]
theorem wanted_val {da db : Int} {cs : List (List AV)} (hl : cs.length ≤ 8) : g77 da db cs = true ∧ w77_0 da db cs = mw cs 0 ∧ w77_1 da db cs = mw cs 1 ∧ w77_2 da db cs = mw cs 2 ∧ w77_3 da db cs = mw cs 3 ∧ w77_4 da db cs = mw cs 4 ∧ w77_5 da db cs = mw cs 5 ∧ w77_6 da db cs = mw cs 6 ∧ w77_7 da db cs = mw cs 7 := by
  obtain ⟨a, ha⟩ := wanted_run hl
  have ez : [AV.i IntKind.i64 0, AV.i IntKind.i64 0, AV.i IntKind.i64 0, AV.i IntKind.i64 0, AV.i IntKind.i64 0, AV.i IntKind.i64 0, AV.i IntKind.i64 0, AV.i IntKind.i64 0] = row8 fun _ => 0 := rfl
  unfold g77 w77_0 w77_1 w77_2 w77_3 w77_4 w77_5 w77_6 w77_7 t77 i77a_0 v77a_0_m2
  rw [ez, ha]
  exact ⟨rfl, rfl, rfl, rfl, rfl, rfl, rfl, rfl, rfl⟩
theorem q_get (q : Nat → Int) {i : Nat} (h : i < 8) : toI ([AV.i IntKind.i64 (q 0), AV.i IntKind.i64 (q 1), AV.i IntKind.i64 (q 2), AV.i IntKind.i64 (q 3), AV.i IntKind.i64 (q 4), AV.i IntKind.i64 (q 5), AV.i IntKind.i64 (q 6), AV.i IntKind.i64 (q 7)].getD (0 + ((i : Nat) : Int).toNat * 1) AV.u) = q i := by
  rcases i with _ | _ | _ | _ | _ | _ | _ | _ | i
  all_goals first | (exfalso; omega) | rfl
theorem enc8_inj {X Y : List AV} (h : enc8 X = enc8 Y) : ∀ i, i < 8 → fI X i = fI Y i := by
  simp only [enc8, ag8, List.cons.injEq, AV.agg.injEq, AV.i.injEq, true_and, and_true] at h
  intro i hi
  rcases i with _ | _ | _ | _ | _ | _ | _ | _ | i
  all_goals first | (exfalso; omega) | (obtain ⟨a0, a1, a2, a3, a4, a5, a6, a7⟩ := h; assumption)
end Go.Proofs.Ytgifjphinkbcaaa

set_option maxRecDepth 100000
set_option maxHeartbeats 1000000
set_option linter.unusedVariables false
namespace Go.Proofs.Ytgifjphinkbcaaa
open Go Go.Ev

/-! ### Plan$1$1 -/
noncomputable def c74 : Code := match Try.f74.body with | some c => c | _ => .skip
theorem lok74 : LOK Try.prog S0 (ro 74) (fun _ _ => none) 0 false c74 [] :=
  lok_lo (fun _ _ _ _ _ _ _ h _ => by cases h) c74 [] false (locate_nil _) (by kernel_rfl)
noncomputable def t74 (x : Int) : Tr ((Bool)) :=
  .lf (decide (x > 0))
noncomputable def g74 (x : Int) : Bool := (t74 x).g
noncomputable def w74_0 (x : Int) : Bool := (t74 x).val
theorem eq74 (x : Int) : evF Try.prog S0 (ro 74) (fun _ _ => none) Try.f74 [.i .i64 x] = (t74 x).opt (fun (x : (Bool)) => (.b x : AV)) := by kernel_rfl
theorem con74 (x : Int) (h : g74 x = true) : Con Try.prog 74 [.i .i64 x] [] (.b (w74_0 x)) [] :=
  con_of S0_ok mixed Try.func74 (c := c74) rfl (names 74 _ Try.func74) lok74 ((eq74 x).trans (Tr.sound _ _ h))
noncomputable def e74 (args : List AV) (rows : List Blk) : Option (Bool × AV × List Blk) := match args, rows with
  | [.i .i64 x], [] => some (g74 x, .b (w74_0 x), [])
  | _, _ => none
theorem e74_ok (args : List AV) (rows : List Blk) (pre : Bool) (v : AV) (rows' : List Blk) (h : e74 args rows = some (pre, v, rows')) (hp : pre = true) : Con Try.prog 74 args rows v rows' := by
  unfold e74 at h
  split at h
  · cases h; exact con74 _ hp
  · cases h
-- SPEC 74
end Go.Proofs.Ytgifjphinkbcaaa

set_option maxRecDepth 100000
set_option linter.unusedVariables false
namespace Go.Proofs.Ytgifjphinkbcaaa
open Go Go.Ev
noncomputable def SP3 : Ev.Spec := insS 74 e74 S0
theorem SP3_ok : SpecOK Try.prog SP3 := insS_ok e74_ok S0_ok
end Go.Proofs.Ytgifjphinkbcaaa

set_option maxRecDepth 100000
set_option maxHeartbeats 1000000
set_option linter.unusedVariables false
namespace Go.Proofs.Ytgifjphinkbcaaa
open Go Go.Ev

/-! ### IndexFunc (rows) -/
noncomputable def c73q : Code := match Try.f73.body with | some c => c | _ => .skip
noncomputable def lp73qa : Code := loopAt c73q [true, false, true, false]
noncomputable def s73qa (t4 : Int) (t7 : Int) (t8 : Int) (q0 : Int) (q1 : Int) (q2 : Int) (q3 : Int) (q4 : Int) (q5 : Int) (q6 : Int) (q7 : Int) : St :=
  { t := [(0, .sa 0 0 0 8), (1, .fn 74 []), (4, .i .i64 t4), (7, .i .i64 t7), (8, .i .i64 t8)], m := [(0, .row 104 [[.i .i64 q0, .i .i64 q1, .i .i64 q2, .i .i64 q3, .i .i64 q4, .i .i64 q5, .i .i64 q6, .i .i64 q7]])], nx := 1, nt := 19 }
structure S73qa where
  t8 : Int
inductive T73qa where
  | x0 (t4' : Int) (t8 : Int)
  | x1 (t8 : Int)
noncomputable def stp73qa (t4 : Int) (t7 : Int) (q0 : Int) (q1 : Int) (q2 : Int) (q3 : Int) (q4 : Int) (q5 : Int) (q6 : Int) (q7 : Int) (t8 : Int) : Lp S73qa T73qa :=
  cond (decide (t8 < t7)) (cond (inb t8 8) (cond (ctsAt (cts Try.prog 104) (0 + t8.toNat * 1) (cts Try.prog 3) && true) (cond (w74_0 (toI (([[AV.i IntKind.i64 q0, AV.i IntKind.i64 q1, AV.i IntKind.i64 q2, AV.i IntKind.i64 q3, AV.i IntKind.i64 q4, AV.i IntKind.i64 q5, AV.i IntKind.i64 q6, AV.i IntKind.i64 q7]].getD 0 []).getD (0 + t8.toNat * 1) AV.u))) (.out (.x0 t8 t8)) (.go ⟨IntKind.i64.wrap (t8 + 1)⟩)) (.bad)) (.bad)) (.out (.x1 t8))
noncomputable def o73qa_0 (t4 : Int) (t7 : Int) (q0 : Int) (q1 : Int) (q2 : Int) (q3 : Int) (q4 : Int) (q5 : Int) (q6 : Int) (q7 : Int) (t4' : Int) (t8 : Int) : St :=
  { t := [(0, .sa 0 0 0 8), (1, .fn 74 []), (4, .i .i64 t4'), (7, .i .i64 t7), (8, .i .i64 t8)], m := [(0, .row 104 [[.i .i64 q0, .i .i64 q1, .i .i64 q2, .i .i64 q3, .i .i64 q4, .i .i64 q5, .i .i64 q6, .i .i64 q7]])], nx := 1, nt := 19 }
noncomputable def o73qa_1 (t4 : Int) (t7 : Int) (q0 : Int) (q1 : Int) (q2 : Int) (q3 : Int) (q4 : Int) (q5 : Int) (q6 : Int) (q7 : Int) (t8 : Int) : St :=
  { t := [(0, .sa 0 0 0 8), (1, .fn 74 []), (4, .i .i64 t4), (7, .i .i64 t7), (8, .i .i64 t8)], m := [(0, .row 104 [[.i .i64 q0, .i .i64 q1, .i .i64 q2, .i .i64 q3, .i .i64 q4, .i .i64 q5, .i .i64 q6, .i .i64 q7]])], nx := 1, nt := 19 }
noncomputable def ou73qa (t4 : Int) (t7 : Int) (q0 : Int) (q1 : Int) (q2 : Int) (q3 : Int) (q4 : Int) (q5 : Int) (q6 : Int) (q7 : Int) : T73qa → Ex × St
  | .x0 t4' t8 => (.ret, o73qa_0 t4 t7 q0 q1 q2 q3 q4 q5 q6 q7 t4' t8)
  | .x1 t8 => (.ext 0, o73qa_1 t4 t7 q0 q1 q2 q3 q4 q5 q6 q7 t8)
noncomputable def r73qa (t4 : Int) (t7 : Int) (q0 : Int) (q1 : Int) (q2 : Int) (q3 : Int) (q4 : Int) (q5 : Int) (q6 : Int) (q7 : Int) (t8 : Int) : Option T73qa := run (fun x => stp73qa t4 t7 q0 q1 q2 q3 q4 q5 q6 q7 x.t8) (⟨t8⟩ : S73qa)
noncomputable def i73qa_0 (t4 : Int) (t7 : Int) (q0 : Int) (q1 : Int) (q2 : Int) (q3 : Int) (q4 : Int) (q5 : Int) (q6 : Int) (q7 : Int) (t8 : Int) : Bool := match r73qa t4 t7 q0 q1 q2 q3 q4 q5 q6 q7 t8 with
  | some (.x0 _ _) => true
  | _ => false
noncomputable def v73qa_0_t4' (t4 : Int) (t7 : Int) (q0 : Int) (q1 : Int) (q2 : Int) (q3 : Int) (q4 : Int) (q5 : Int) (q6 : Int) (q7 : Int) (t8 : Int) : Int := match r73qa t4 t7 q0 q1 q2 q3 q4 q5 q6 q7 t8 with
  | some (.x0 t4' _) => t4'
  | _ => default
noncomputable def v73qa_0_t8 (t4 : Int) (t7 : Int) (q0 : Int) (q1 : Int) (q2 : Int) (q3 : Int) (q4 : Int) (q5 : Int) (q6 : Int) (q7 : Int) (t8 : Int) : Int := match r73qa t4 t7 q0 q1 q2 q3 q4 q5 q6 q7 t8 with
  | some (.x0 _ t8) => t8
  | _ => default
noncomputable def i73qa_1 (t4 : Int) (t7 : Int) (q0 : Int) (q1 : Int) (q2 : Int) (q3 : Int) (q4 : Int) (q5 : Int) (q6 : Int) (q7 : Int) (t8 : Int) : Bool := match r73qa t4 t7 q0 q1 q2 q3 q4 q5 q6 q7 t8 with
  | some (.x1 _) => true
  | _ => false
noncomputable def v73qa_1_t8 (t4 : Int) (t7 : Int) (q0 : Int) (q1 : Int) (q2 : Int) (q3 : Int) (q4 : Int) (q5 : Int) (q6 : Int) (q7 : Int) (t8 : Int) : Int := match r73qa t4 t7 q0 q1 q2 q3 q4 q5 q6 q7 t8 with
  | some (.x1 t8) => t8
  | _ => default
noncomputable def l73qa (st : St) : Option (List (Bool × Ex × St)) := match normW Try.prog [(0, none), (1, none), (4, none), (7, none), (8, none)] 1 st with
  | some ([.sa 0 0 0 8, .fn 74 [], .i .i64 t4, .i .i64 t7, .i .i64 t8], [(0, .row 104 [[.i .i64 q0, .i .i64 q1, .i .i64 q2, .i .i64 q3, .i .i64 q4, .i .i64 q5, .i .i64 q6, .i .i64 q7]])], 1, 19) => some [(i73qa_0 t4 t7 q0 q1 q2 q3 q4 q5 q6 q7 t8, .ret, o73qa_0 t4 t7 q0 q1 q2 q3 q4 q5 q6 q7 (v73qa_0_t4' t4 t7 q0 q1 q2 q3 q4 q5 q6 q7 t8) (v73qa_0_t8 t4 t7 q0 q1 q2 q3 q4 q5 q6 q7 t8)), (i73qa_1 t4 t7 q0 q1 q2 q3 q4 q5 q6 q7 t8, .ext 0, o73qa_1 t4 t7 q0 q1 q2 q3 q4 q5 q6 q7 (v73qa_1_t8 t4 t7 q0 q1 q2 q3 q4 q5 q6 q7 t8))]
  | _ => none
noncomputable def L73q : LSpec := fun p st => match p with
  | [false, true, false, true] => l73qa st
  | _ => none
theorem is73qa_0 (t4 : Int) (t7 : Int) (q0 : Int) (q1 : Int) (q2 : Int) (q3 : Int) (q4 : Int) (q5 : Int) (q6 : Int) (q7 : Int) (t8 : Int) (h : i73qa_0 t4 t7 q0 q1 q2 q3 q4 q5 q6 q7 t8 = true) : r73qa t4 t7 q0 q1 q2 q3 q4 q5 q6 q7 t8 = some (.x0 (v73qa_0_t4' t4 t7 q0 q1 q2 q3 q4 q5 q6 q7 t8) (v73qa_0_t8 t4 t7 q0 q1 q2 q3 q4 q5 q6 q7 t8)) := by
  unfold i73qa_0 at h
  unfold v73qa_0_t4' v73qa_0_t8
  generalize r73qa t4 t7 q0 q1 q2 q3 q4 q5 q6 q7 t8 = r at h ⊢
  rcases r with _ | y
  · cases h
  · cases y <;> first | rfl | cases h
theorem is73qa_1 (t4 : Int) (t7 : Int) (q0 : Int) (q1 : Int) (q2 : Int) (q3 : Int) (q4 : Int) (q5 : Int) (q6 : Int) (q7 : Int) (t8 : Int) (h : i73qa_1 t4 t7 q0 q1 q2 q3 q4 q5 q6 q7 t8 = true) : r73qa t4 t7 q0 q1 q2 q3 q4 q5 q6 q7 t8 = some (.x1 (v73qa_1_t8 t4 t7 q0 q1 q2 q3 q4 q5 q6 q7 t8)) := by
  unfold i73qa_1 at h
  unfold v73qa_1_t8
  generalize r73qa t4 t7 q0 q1 q2 q3 q4 q5 q6 q7 t8 = r at h ⊢
  rcases r with _ | y
  · cases h
  · cases y <;> first | rfl | cases h
theorem round73qa (t4 : Int) (t7 : Int) (t8 : Int) (q0 : Int) (q1 : Int) (q2 : Int) (q3 : Int) (q4 : Int) (q5 : Int) (q6 : Int) (q7 : Int) : round Try.prog SP3 (ro 73) L73q lp73qa [false, true, false, true] [(0, none), (1, none), (4, none), (7, none), (8, none)] 1 (s73qa t4 t7 t8 q0 q1 q2 q3 q4 q5 q6 q7) =
    cond (decide (t8 < t7)) (cond (inb t8 8) (cond (ctsAt (cts Try.prog 104) (0 + t8.toNat * 1) (cts Try.prog 3) && true) (cond (w74_0 (toI (([[AV.i IntKind.i64 q0, AV.i IntKind.i64 q1, AV.i IntKind.i64 q2, AV.i IntKind.i64 q3, AV.i IntKind.i64 q4, AV.i IntKind.i64 q5, AV.i IntKind.i64 q6, AV.i IntKind.i64 q7]].getD 0 []).getD (0 + t8.toNat * 1) AV.u))) (some (.ret, o73qa_0 t4 t7 q0 q1 q2 q3 q4 q5 q6 q7 t8 t8)) (some (.nrm, s73qa t4 t7 (IntKind.i64.wrap (t8 + 1)) q0 q1 q2 q3 q4 q5 q6 q7))) (none)) (none)) (some (.ext 0, o73qa_1 t4 t7 q0 q1 q2 q3 q4 q5 q6 q7 t8)) := by kernel_rfl
theorem rnd73qa (t4 : Int) (t7 : Int) (q0 : Int) (q1 : Int) (q2 : Int) (q3 : Int) (q4 : Int) (q5 : Int) (q6 : Int) (q7 : Int) (x : S73qa) : round Try.prog SP3 (ro 73) L73q lp73qa [false, true, false, true] [(0, none), (1, none), (4, none), (7, none), (8, none)] 1 ((fun x => s73qa t4 t7 x.t8 q0 q1 q2 q3 q4 q5 q6 q7) x) = toR (fun x => s73qa t4 t7 x.t8 q0 q1 q2 q3 q4 q5 q6 q7) (ou73qa t4 t7 q0 q1 q2 q3 q4 q5 q6 q7) (stp73qa t4 t7 q0 q1 q2 q3 q4 q5 q6 q7 x.t8) := by
  refine (round73qa _ _ _ _ _ _ _ _ _ _ _ ).trans ?_
  unfold stp73qa
  simp only [toR_cond]
  rfl
theorem lok73qa {st : St} {outs : List (Bool × Ex × St)} {e : Ex} {s : St} (hl : l73qa st = some outs) (hch : Chosen outs e s) :
    ∃ keep nb, 1 ≤ nb ∧ LB Try.prog SP3 (ro 73) L73q lp73qa [false, true, false, true] keep nb st e s := by
  unfold l73qa at hl
  split at hl
  · rename_i t4 t7 t8 q0 q1 q2 q3 q4 q5 q6 q7 hno
    cases hl
    have hno := normW_norm hno
    refine ⟨_, _, ?_, .enter hno ?_⟩
    · decide
    have main := fun y h => LB_run (x := (⟨t8⟩ : S73qa)) (y := y) (nb := 1) (fun y => by cases y <;> simp [ou73qa]) (rnd73qa t4 t7 q0 q1 q2 q3 q4 q5 q6 q7) h
    obtain ⟨x, hx, hg, rfl, rfl⟩ := chosen_any hch
    simp only [List.mem_cons, List.not_mem_nil, or_false] at hx
    rcases hx with rfl | rfl
    · exact main _ (is73qa_0 t4 t7 q0 q1 q2 q3 q4 q5 q6 q7 t8 hg)
    · exact main _ (is73qa_1 t4 t7 q0 q1 q2 q3 q4 q5 q6 q7 t8 hg)
  · cases hl
theorem L73q_ok (q : Pl) (c : Code) (hq : locate c73q q.reverse = some (.loop c)) (st : St) (outs : List (Bool × Ex × St)) (e : Ex) (s : St) (hl : L73q q st = some outs) (hch : Chosen outs e s) :
    ∃ keep nb, 1 ≤ nb ∧ LB Try.prog SP3 (ro 73) L73q c q keep nb st e s := by
  unfold L73q at hl
  split at hl
  · have : locate c73q ([false, true, false, true] : Pl).reverse = some (.loop lp73qa) := by kernel_rfl
    rw [this] at hq
    cases hq
    exact lok73qa hl hch
  · cases hl
theorem lok73q : LOK Try.prog SP3 (ro 73) L73q 1 false c73q [] :=
  lok_lo L73q_ok c73q [] false (locate_nil _) (by kernel_rfl)
noncomputable def t73q (q0 q1 q2 q3 q4 q5 q6 q7 : Int) : Tr ((Int) × (Int) × (Int) × (Int) × (Int) × (Int) × (Int) × (Int) × (Int)) :=
  .cn (i73qa_0 0 (↑8 : Int) q0 q1 q2 q3 q4 q5 q6 q7 0) (.lf (v73qa_0_t4' 0 (↑8 : Int) q0 q1 q2 q3 q4 q5 q6 q7 0, q0, q1, q2, q3, q4, q5, q6, q7)) (.cn (i73qa_1 0 (↑8 : Int) q0 q1 q2 q3 q4 q5 q6 q7 0) (.lf (-1, q0, q1, q2, q3, q4, q5, q6, q7)) (.nn))
noncomputable def g73q (q0 q1 q2 q3 q4 q5 q6 q7 : Int) : Bool := (t73q q0 q1 q2 q3 q4 q5 q6 q7).g
noncomputable def w73q_0 (q0 q1 q2 q3 q4 q5 q6 q7 : Int) : Int := (t73q q0 q1 q2 q3 q4 q5 q6 q7).val.1
noncomputable def w73q_1 (q0 q1 q2 q3 q4 q5 q6 q7 : Int) : Int := (t73q q0 q1 q2 q3 q4 q5 q6 q7).val.2.1
noncomputable def w73q_2 (q0 q1 q2 q3 q4 q5 q6 q7 : Int) : Int := (t73q q0 q1 q2 q3 q4 q5 q6 q7).val.2.2.1
noncomputable def w73q_3 (q0 q1 q2 q3 q4 q5 q6 q7 : Int) : Int := (t73q q0 q1 q2 q3 q4 q5 q6 q7).val.2.2.2.1
noncomputable def w73q_4 (q0 q1 q2 q3 q4 q5 q6 q7 : Int) : Int := (t73q q0 q1 q2 q3 q4 q5 q6 q7).val.2.2.2.2.1
noncomputable def w73q_5 (q0 q1 q2 q3 q4 q5 q6 q7 : Int) : Int := (t73q q0 q1 q2 q3 q4 q5 q6 q7).val.2.2.2.2.2.1
noncomputable def w73q_6 (q0 q1 q2 q3 q4 q5 q6 q7 : Int) : Int := (t73q q0 q1 q2 q3 q4 q5 q6 q7).val.2.2.2.2.2.2.1
noncomputable def w73q_7 (q0 q1 q2 q3 q4 q5 q6 q7 : Int) : Int := (t73q q0 q1 q2 q3 q4 q5 q6 q7).val.2.2.2.2.2.2.2.1
noncomputable def w73q_8 (q0 q1 q2 q3 q4 q5 q6 q7 : Int) : Int := (t73q q0 q1 q2 q3 q4 q5 q6 q7).val.2.2.2.2.2.2.2.2
theorem eq73q (q0 q1 q2 q3 q4 q5 q6 q7 : Int) : evM Try.prog SP3 (ro 73) L73q Try.f73 [.sa 0 0 0 8, .fn 74 []] [.row 104 [[.i .i64 q0, .i .i64 q1, .i .i64 q2, .i .i64 q3, .i .i64 q4, .i .i64 q5, .i .i64 q6, .i .i64 q7]]] = (t73q q0 q1 q2 q3 q4 q5 q6 q7).opt (fun (x : (Int) × (Int) × (Int) × (Int) × (Int) × (Int) × (Int) × (Int) × (Int)) => ((.i .i64 x.1, [.row 104 [[.i .i64 x.2.1, .i .i64 x.2.2.1, .i .i64 x.2.2.2.1, .i .i64 x.2.2.2.2.1, .i .i64 x.2.2.2.2.2.1, .i .i64 x.2.2.2.2.2.2.1, .i .i64 x.2.2.2.2.2.2.2.1, .i .i64 x.2.2.2.2.2.2.2.2]]]) : AV × List Blk)) := by kernel_rfl
theorem con73q (q0 q1 q2 q3 q4 q5 q6 q7 : Int) (h : g73q q0 q1 q2 q3 q4 q5 q6 q7 = true) : Con Try.prog 73 [.sa 0 0 0 8, .fn 74 []] [.row 104 [[.i .i64 q0, .i .i64 q1, .i .i64 q2, .i .i64 q3, .i .i64 q4, .i .i64 q5, .i .i64 q6, .i .i64 q7]]] (.i .i64 (w73q_0 q0 q1 q2 q3 q4 q5 q6 q7)) [.row 104 [[.i .i64 (w73q_1 q0 q1 q2 q3 q4 q5 q6 q7), .i .i64 (w73q_2 q0 q1 q2 q3 q4 q5 q6 q7), .i .i64 (w73q_3 q0 q1 q2 q3 q4 q5 q6 q7), .i .i64 (w73q_4 q0 q1 q2 q3 q4 q5 q6 q7), .i .i64 (w73q_5 q0 q1 q2 q3 q4 q5 q6 q7), .i .i64 (w73q_6 q0 q1 q2 q3 q4 q5 q6 q7), .i .i64 (w73q_7 q0 q1 q2 q3 q4 q5 q6 q7), .i .i64 (w73q_8 q0 q1 q2 q3 q4 q5 q6 q7)]]] :=
  con_ofM SP3_ok mixed Try.func73 (c := c73q) rfl (names 73 _ Try.func73) lok73q ((eq73q q0 q1 q2 q3 q4 q5 q6 q7).trans (Tr.sound _ _ h))
noncomputable def e73q (args : List AV) (rows : List Blk) : Option (Bool × AV × List Blk) := match args, rows with
  | [.sa 0 0 0 8, .fn 74 []], [.row 104 [[.i .i64 q0, .i .i64 q1, .i .i64 q2, .i .i64 q3, .i .i64 q4, .i .i64 q5, .i .i64 q6, .i .i64 q7]]] => some (g73q q0 q1 q2 q3 q4 q5 q6 q7, .i .i64 (w73q_0 q0 q1 q2 q3 q4 q5 q6 q7), [.row 104 [[.i .i64 (w73q_1 q0 q1 q2 q3 q4 q5 q6 q7), .i .i64 (w73q_2 q0 q1 q2 q3 q4 q5 q6 q7), .i .i64 (w73q_3 q0 q1 q2 q3 q4 q5 q6 q7), .i .i64 (w73q_4 q0 q1 q2 q3 q4 q5 q6 q7), .i .i64 (w73q_5 q0 q1 q2 q3 q4 q5 q6 q7), .i .i64 (w73q_6 q0 q1 q2 q3 q4 q5 q6 q7), .i .i64 (w73q_7 q0 q1 q2 q3 q4 q5 q6 q7), .i .i64 (w73q_8 q0 q1 q2 q3 q4 q5 q6 q7)]]])
  | _, _ => none
theorem e73q_ok (args : List AV) (rows : List Blk) (pre : Bool) (v : AV) (rows' : List Blk) (h : e73q args rows = some (pre, v, rows')) (hp : pre = true) : Con Try.prog 73 args rows v rows' := by
  unfold e73q at h
  split at h
  · cases h; exact con73q _ _ _ _ _ _ _ _ hp
  · cases h
-- SPEC 73
end Go.Proofs.Ytgifjphinkbcaaa

set_option maxRecDepth 100000
set_option linter.unusedVariables false
namespace Go.Proofs.Ytgifjphinkbcaaa
open Go Go.Ev
/-! ### Memo: what the closure of Even and its memo give one another -/
abbrev PS := List (List AV)
abbrev Mp := List (AV × AV)
abbrev FT := Int → Int → Int → PS → Int → Int → Int → PS → Int → Int → Mp → Int × Mp
abbrev GT := Int → Int → Int → PS → Int → Int → Int → PS → Int → Int → Mp → Bool
def rpRi (ra rb rc : Int) (ps : PS) : AV := .rp [.int .i64, .int .i64, .int .i64, .sl 31] [.i .i64 ra, .i .i64 rb, .i .i64 rc, .rs 31 ps] 0
def fn68 (ra rb rc : Int) (ps : PS) : AV := .fn 68 [.rp [.int .i64, .int .i64, .int .i64, .sl 31] [.i .i64 ra, .i .i64 rb, .i .i64 rc, .rs 31 ps] 0, .p 0 0 0, .p 1 0 0]
def rowsE (ra rb rc : Int) (ps : PS) (m : Mp) : List Blk := [.row 94 [[.mp 2]], .row 76 [[fn68 ra rb rc ps]], .mp 78 3 m]
/-- Of the closure. -/
class LF where
  F : FT
  G : GT
  ok : ∀ ra rb rc ps ra' rb' rc' ps' w p m, G ra rb rc ps ra' rb' rc' ps' w p m = true → Con Try.prog 68 [.agg [.i .i64 w, .i .i64 p], rpRi ra rb rc ps, .p 0 0 0, .p 1 0 0] (rowsE ra' rb' rc' ps' m) (.i .i64 (F ra rb rc ps ra' rb' rc' ps' w p m).1) (rowsE ra' rb' rc' ps' (F ra rb rc ps ra' rb' rc' ps' w p m).2)
/-- Of get. -/
class LG where
  F : FT
  G : GT
  ok : ∀ ra rb rc ps ra' rb' rc' ps' w p m, G ra rb rc ps ra' rb' rc' ps' w p m = true → Con Try.prog 69 [.p 0 0 0, .agg [.i .i64 w, .i .i64 p], fn68 ra rb rc ps] (rowsE ra' rb' rc' ps' m) (.i .i64 (F ra rb rc ps ra' rb' rc' ps' w p m).1) (rowsE ra' rb' rc' ps' (F ra rb rc ps ra' rb' rc' ps' w p m).2)
noncomputable def eLF [LF] (args : List AV) (rows : List Blk) : Option (Bool × AV × List Blk) := match args, rows with
  | [.agg [.i .i64 w, .i .i64 p], .rp [.int .i64, .int .i64, .int .i64, .sl 31] [.i .i64 ra, .i .i64 rb, .i .i64 rc, .rs 31 ps] 0, .p 0 0 0, .p 1 0 0],
    [.row 94 [[.mp 2]], .row 76 [[.fn 68 [.rp [.int .i64, .int .i64, .int .i64, .sl 31] [.i .i64 ra', .i .i64 rb', .i .i64 rc', .rs 31 ps'] 0, .p 0 0 0, .p 1 0 0]]], .mp 78 3 m] =>
    some (LF.G ra rb rc ps ra' rb' rc' ps' w p m, .i .i64 (LF.F ra rb rc ps ra' rb' rc' ps' w p m).1, [.row 94 [[.mp 2]], .row 76 [[.fn 68 [.rp [.int .i64, .int .i64, .int .i64, .sl 31] [.i .i64 ra', .i .i64 rb', .i .i64 rc', .rs 31 ps'] 0, .p 0 0 0, .p 1 0 0]]], .mp 78 3 (LF.F ra rb rc ps ra' rb' rc' ps' w p m).2])
  | _, _ => none
theorem eLF_ok [LF] (args : List AV) (rows : List Blk) (pre : Bool) (v : AV) (rows' : List Blk) (h : eLF args rows = some (pre, v, rows')) (hp : pre = true) : Con Try.prog 68 args rows v rows' := by
  unfold eLF at h
  split at h
  · cases h; exact LF.ok _ _ _ _ _ _ _ _ _ _ _ hp
  · cases h
noncomputable def eLG [LG] (args : List AV) (rows : List Blk) : Option (Bool × AV × List Blk) := match args, rows with
  | [.p 0 0 0, .agg [.i .i64 w, .i .i64 p], .fn 68 [.rp [.int .i64, .int .i64, .int .i64, .sl 31] [.i .i64 ra, .i .i64 rb, .i .i64 rc, .rs 31 ps] 0, .p 0 0 0, .p 1 0 0]],
    [.row 94 [[.mp 2]], .row 76 [[.fn 68 [.rp [.int .i64, .int .i64, .int .i64, .sl 31] [.i .i64 ra', .i .i64 rb', .i .i64 rc', .rs 31 ps'] 0, .p 0 0 0, .p 1 0 0]]], .mp 78 3 m] =>
    some (LG.G ra rb rc ps ra' rb' rc' ps' w p m, .i .i64 (LG.F ra rb rc ps ra' rb' rc' ps' w p m).1, [.row 94 [[.mp 2]], .row 76 [[.fn 68 [.rp [.int .i64, .int .i64, .int .i64, .sl 31] [.i .i64 ra', .i .i64 rb', .i .i64 rc', .rs 31 ps'] 0, .p 0 0 0, .p 1 0 0]]], .mp 78 3 (LG.F ra rb rc ps ra' rb' rc' ps' w p m).2])
  | _, _ => none
theorem eLG_ok [LG] (args : List AV) (rows : List Blk) (pre : Bool) (v : AV) (rows' : List Blk) (h : eLG args rows = some (pre, v, rows')) (hp : pre = true) : Con Try.prog 69 args rows v rows' := by
  unfold eLG at h
  split at h
  · cases h; exact LG.ok _ _ _ _ _ _ _ _ _ _ _ hp
  · cases h
noncomputable def SLF [LF] : Ev.Spec := insS 68 eLF S0
theorem SLF_ok [LF] : SpecOK Try.prog SLF := insS_ok eLF_ok S0_ok
noncomputable def SLG [LG] : Ev.Spec := insS 69 eLG S0
theorem SLG_ok [LG] : SpecOK Try.prog SLG := insS_ok eLG_ok S0_ok
end Go.Proofs.Ytgifjphinkbcaaa

set_option maxRecDepth 100000
set_option linter.unusedVariables false
namespace Go.Proofs.Ytgifjphinkbcaaa
open Go Go.Ev
/-! ### Memo: what the closure of Plan and its memo give one another -/
abbrev FP := Int → Int → PS → Int → Int → PS → Int → Int → Int → Int → Int → Int → Int → Int → Mp → (Nat → Int) × Mp
abbrev GP := Int → Int → PS → Int → Int → PS → Int → Int → Int → Int → Int → Int → Int → Int → Mp → Bool
/-- Of the closure. -/
class LP where
  F : FP
  G : GP
  ok : ∀ da db cs da' db' cs' q0 q1 q2 q3 q4 q5 q6 q7 m, G da db cs da' db' cs' q0 q1 q2 q3 q4 q5 q6 q7 m = true → Con Try.prog 72 [.agg [.i .i64 q0, .i .i64 q1, .i .i64 q2, .i .i64 q3, .i .i64 q4, .i .i64 q5, .i .i64 q6, .i .i64 q7], .rp [.int .i64, .int .i64, .sl 64] [.i .i64 da, .i .i64 db, .rs 64 cs] 0, .p 0 0 0, .p 1 0 0] [.row 101 [[.mp 2]], .row 102 [[.fn 72 [.rp [.int .i64, .int .i64, .sl 64] [.i .i64 da', .i .i64 db', .rs 64 cs'] 0, .p 0 0 0, .p 1 0 0]]], .mp 104 106 m] (.agg [.i .i64 ((F da db cs da' db' cs' q0 q1 q2 q3 q4 q5 q6 q7 m).1 0), .i .i64 ((F da db cs da' db' cs' q0 q1 q2 q3 q4 q5 q6 q7 m).1 1), .i .i64 ((F da db cs da' db' cs' q0 q1 q2 q3 q4 q5 q6 q7 m).1 2), .i .i64 ((F da db cs da' db' cs' q0 q1 q2 q3 q4 q5 q6 q7 m).1 3), .i .i64 ((F da db cs da' db' cs' q0 q1 q2 q3 q4 q5 q6 q7 m).1 4), .i .i64 ((F da db cs da' db' cs' q0 q1 q2 q3 q4 q5 q6 q7 m).1 5), .i .i64 ((F da db cs da' db' cs' q0 q1 q2 q3 q4 q5 q6 q7 m).1 6), .i .i64 ((F da db cs da' db' cs' q0 q1 q2 q3 q4 q5 q6 q7 m).1 7), .i .i64 ((F da db cs da' db' cs' q0 q1 q2 q3 q4 q5 q6 q7 m).1 8)]) [.row 101 [[.mp 2]], .row 102 [[.fn 72 [.rp [.int .i64, .int .i64, .sl 64] [.i .i64 da', .i .i64 db', .rs 64 cs'] 0, .p 0 0 0, .p 1 0 0]]], .mp 104 106 (F da db cs da' db' cs' q0 q1 q2 q3 q4 q5 q6 q7 m).2]
/-- Of get. -/
class LQ where
  F : FP
  G : GP
  ok : ∀ da db cs da' db' cs' q0 q1 q2 q3 q4 q5 q6 q7 m, G da db cs da' db' cs' q0 q1 q2 q3 q4 q5 q6 q7 m = true → Con Try.prog 76 [.p 0 0 0, .agg [.i .i64 q0, .i .i64 q1, .i .i64 q2, .i .i64 q3, .i .i64 q4, .i .i64 q5, .i .i64 q6, .i .i64 q7], .fn 72 [.rp [.int .i64, .int .i64, .sl 64] [.i .i64 da, .i .i64 db, .rs 64 cs] 0, .p 0 0 0, .p 1 0 0]] [.row 101 [[.mp 2]], .row 102 [[.fn 72 [.rp [.int .i64, .int .i64, .sl 64] [.i .i64 da', .i .i64 db', .rs 64 cs'] 0, .p 0 0 0, .p 1 0 0]]], .mp 104 106 m] (.agg [.i .i64 ((F da db cs da' db' cs' q0 q1 q2 q3 q4 q5 q6 q7 m).1 0), .i .i64 ((F da db cs da' db' cs' q0 q1 q2 q3 q4 q5 q6 q7 m).1 1), .i .i64 ((F da db cs da' db' cs' q0 q1 q2 q3 q4 q5 q6 q7 m).1 2), .i .i64 ((F da db cs da' db' cs' q0 q1 q2 q3 q4 q5 q6 q7 m).1 3), .i .i64 ((F da db cs da' db' cs' q0 q1 q2 q3 q4 q5 q6 q7 m).1 4), .i .i64 ((F da db cs da' db' cs' q0 q1 q2 q3 q4 q5 q6 q7 m).1 5), .i .i64 ((F da db cs da' db' cs' q0 q1 q2 q3 q4 q5 q6 q7 m).1 6), .i .i64 ((F da db cs da' db' cs' q0 q1 q2 q3 q4 q5 q6 q7 m).1 7), .i .i64 ((F da db cs da' db' cs' q0 q1 q2 q3 q4 q5 q6 q7 m).1 8)]) [.row 101 [[.mp 2]], .row 102 [[.fn 72 [.rp [.int .i64, .int .i64, .sl 64] [.i .i64 da', .i .i64 db', .rs 64 cs'] 0, .p 0 0 0, .p 1 0 0]]], .mp 104 106 (F da db cs da' db' cs' q0 q1 q2 q3 q4 q5 q6 q7 m).2]
noncomputable def eLP [LP] (args : List AV) (rows : List Blk) : Option (Bool × AV × List Blk) := match args, rows with
  | [.agg [.i .i64 q0, .i .i64 q1, .i .i64 q2, .i .i64 q3, .i .i64 q4, .i .i64 q5, .i .i64 q6, .i .i64 q7], .rp [.int .i64, .int .i64, .sl 64] [.i .i64 da, .i .i64 db, .rs 64 cs] 0, .p 0 0 0, .p 1 0 0], [.row 101 [[.mp 2]], .row 102 [[.fn 72 [.rp [.int .i64, .int .i64, .sl 64] [.i .i64 da', .i .i64 db', .rs 64 cs'] 0, .p 0 0 0, .p 1 0 0]]], .mp 104 106 m] => some (LP.G da db cs da' db' cs' q0 q1 q2 q3 q4 q5 q6 q7 m, .agg [.i .i64 ((LP.F da db cs da' db' cs' q0 q1 q2 q3 q4 q5 q6 q7 m).1 0), .i .i64 ((LP.F da db cs da' db' cs' q0 q1 q2 q3 q4 q5 q6 q7 m).1 1), .i .i64 ((LP.F da db cs da' db' cs' q0 q1 q2 q3 q4 q5 q6 q7 m).1 2), .i .i64 ((LP.F da db cs da' db' cs' q0 q1 q2 q3 q4 q5 q6 q7 m).1 3), .i .i64 ((LP.F da db cs da' db' cs' q0 q1 q2 q3 q4 q5 q6 q7 m).1 4), .i .i64 ((LP.F da db cs da' db' cs' q0 q1 q2 q3 q4 q5 q6 q7 m).1 5), .i .i64 ((LP.F da db cs da' db' cs' q0 q1 q2 q3 q4 q5 q6 q7 m).1 6), .i .i64 ((LP.F da db cs da' db' cs' q0 q1 q2 q3 q4 q5 q6 q7 m).1 7), .i .i64 ((LP.F da db cs da' db' cs' q0 q1 q2 q3 q4 q5 q6 q7 m).1 8)], [.row 101 [[.mp 2]], .row 102 [[.fn 72 [.rp [.int .i64, .int .i64, .sl 64] [.i .i64 da', .i .i64 db', .rs 64 cs'] 0, .p 0 0 0, .p 1 0 0]]], .mp 104 106 (LP.F da db cs da' db' cs' q0 q1 q2 q3 q4 q5 q6 q7 m).2])
  | _, _ => none
theorem eLP_ok [LP] (args : List AV) (rows : List Blk) (pre : Bool) (v : AV) (rows' : List Blk) (h : eLP args rows = some (pre, v, rows')) (hp : pre = true) : Con Try.prog 72 args rows v rows' := by
  unfold eLP at h
  split at h
  · cases h; exact LP.ok _ _ _ _ _ _ _ _ _ _ _ _ _ _ _  hp
  · cases h
noncomputable def eLQ [LQ] (args : List AV) (rows : List Blk) : Option (Bool × AV × List Blk) := match args, rows with
  | [.p 0 0 0, .agg [.i .i64 q0, .i .i64 q1, .i .i64 q2, .i .i64 q3, .i .i64 q4, .i .i64 q5, .i .i64 q6, .i .i64 q7], .fn 72 [.rp [.int .i64, .int .i64, .sl 64] [.i .i64 da, .i .i64 db, .rs 64 cs] 0, .p 0 0 0, .p 1 0 0]], [.row 101 [[.mp 2]], .row 102 [[.fn 72 [.rp [.int .i64, .int .i64, .sl 64] [.i .i64 da', .i .i64 db', .rs 64 cs'] 0, .p 0 0 0, .p 1 0 0]]], .mp 104 106 m] => some (LQ.G da db cs da' db' cs' q0 q1 q2 q3 q4 q5 q6 q7 m, .agg [.i .i64 ((LQ.F da db cs da' db' cs' q0 q1 q2 q3 q4 q5 q6 q7 m).1 0), .i .i64 ((LQ.F da db cs da' db' cs' q0 q1 q2 q3 q4 q5 q6 q7 m).1 1), .i .i64 ((LQ.F da db cs da' db' cs' q0 q1 q2 q3 q4 q5 q6 q7 m).1 2), .i .i64 ((LQ.F da db cs da' db' cs' q0 q1 q2 q3 q4 q5 q6 q7 m).1 3), .i .i64 ((LQ.F da db cs da' db' cs' q0 q1 q2 q3 q4 q5 q6 q7 m).1 4), .i .i64 ((LQ.F da db cs da' db' cs' q0 q1 q2 q3 q4 q5 q6 q7 m).1 5), .i .i64 ((LQ.F da db cs da' db' cs' q0 q1 q2 q3 q4 q5 q6 q7 m).1 6), .i .i64 ((LQ.F da db cs da' db' cs' q0 q1 q2 q3 q4 q5 q6 q7 m).1 7), .i .i64 ((LQ.F da db cs da' db' cs' q0 q1 q2 q3 q4 q5 q6 q7 m).1 8)], [.row 101 [[.mp 2]], .row 102 [[.fn 72 [.rp [.int .i64, .int .i64, .sl 64] [.i .i64 da', .i .i64 db', .rs 64 cs'] 0, .p 0 0 0, .p 1 0 0]]], .mp 104 106 (LQ.F da db cs da' db' cs' q0 q1 q2 q3 q4 q5 q6 q7 m).2])
  | _, _ => none
theorem eLQ_ok [LQ] (args : List AV) (rows : List Blk) (pre : Bool) (v : AV) (rows' : List Blk) (h : eLQ args rows = some (pre, v, rows')) (hp : pre = true) : Con Try.prog 76 args rows v rows' := by
  unfold eLQ at h
  split at h
  · cases h; exact LQ.ok _ _ _ _ _ _ _ _ _ _ _ _ _ _ _  hp
  · cases h
noncomputable def SLP [LP] : Ev.Spec := insS 72 eLP S0
theorem SLP_ok [LP] : SpecOK Try.prog SLP := insS_ok eLP_ok S0_ok
end Go.Proofs.Ytgifjphinkbcaaa

set_option maxRecDepth 100000
set_option linter.unusedVariables false
namespace Go.Proofs.Ytgifjphinkbcaaa
open Go Go.Ev
noncomputable def SP2 [LQ] : Ev.Spec := insS 76 eLQ (insS 75 e75 (insS 73 e73q S0))
theorem SP2_ok [LQ] : SpecOK Try.prog SP2 := insS_ok eLQ_ok (insS_ok e75_ok (insS_ok e73q_ok S0_ok))
def ro72 (t : Nat) : Bool := cond (Nat.beq t 4) false (ro 72 t)
end Go.Proofs.Ytgifjphinkbcaaa

set_option maxRecDepth 100000
set_option maxHeartbeats 0
set_option linter.unusedVariables false
namespace Go.Proofs.Ytgifjphinkbcaaa
open Go Go.Ev

/-! ### Plan$1 -/
noncomputable def c72 : Code := match Try.f72.body with | some c => c | _ => .skip
noncomputable def as72a : Code := rangeA c72 [true, true, true, true, false, true, false]
noncomputable def bd72a : Code := rangeB c72 [true, true, true, true, false, true, false]
noncomputable def s72a (t21_0 : Int) (t21_1 : Int) (t21_2 : List (List AV)) (t21_3 : Int) (t21_4 : Int) (t21_5 : Int) (t21_6 : Int) (t21_7 : Int) (t21_8 : Int) (t21_9 : Int) (t21_10 : Int) (m1_0 : Int) (m1_1 : Int) (m1_2 : List (List AV)) (m : List (AV × AV)) (m3_0 : Int) (m3_1 : Int) (m3_2 : Int) (m3_3 : Int) (m3_4 : Int) (m3_5 : Int) (m3_6 : Int) (m3_7 : Int) (m4_0 : Int) (m4_1 : Int) (m4_2 : Int) (m4_3 : Int) (m4_4 : Int) (m4_5 : Int) (m4_6 : Int) (m4_7 : Int) (m4_8 : Int) (m7 : Int) (m12_0 : Int) (m12_1 : Int) (m12_2 : Int) (m12_3 : Int) (m12_4 : Int) (m12_5 : Int) (m12_6 : Int) (m12_7 : Int) (m12_8 : Int) : St :=
  { t := [(2, .p 0 0 0), (3, .p 1 0 0), (4, .p 3 0 0), (5, .p 4 0 0), (6, .p 7 0 0), (7, .p 12 0 0), (21, .fn 88 [.rp [.int .i64, .int .i64, .sl 64] [.i .i64 t21_0, .i .i64 t21_1, .rs 64 t21_2] 0, .rp [.int .i64, .int .i64, .int .i64, .int .i64, .int .i64, .int .i64, .int .i64, .int .i64] [.i .i64 t21_3, .i .i64 t21_4, .i .i64 t21_5, .i .i64 t21_6, .i .i64 t21_7, .i .i64 t21_8, .i .i64 t21_9, .i .i64 t21_10] 0])], m := [(0, .row 101 [[.mp 2]]), (1, .row 102 [[.fn 72 [.rp [.int .i64, .int .i64, .sl 64] [.i .i64 m1_0, .i .i64 m1_1, .rs 64 m1_2] 0, .p 0 0 0, .p 1 0 0]]]), (2, .mp 104 106 m), (3, .row 104 [[.i .i64 m3_0, .i .i64 m3_1, .i .i64 m3_2, .i .i64 m3_3, .i .i64 m3_4, .i .i64 m3_5, .i .i64 m3_6, .i .i64 m3_7]]), (4, .row 106 [[.i .i64 m4_0, .i .i64 m4_1, .i .i64 m4_2, .i .i64 m4_3, .i .i64 m4_4, .i .i64 m4_5, .i .i64 m4_6, .i .i64 m4_7, .i .i64 m4_8]]), (5, .dead), (6, .dead), (7, .row 3 [[.i .i64 m7]]), (8, .dead), (9, .dead), (10, .dead), (11, .dead), (12, .row 106 [[.i .i64 m12_0, .i .i64 m12_1, .i .i64 m12_2, .i .i64 m12_3, .i .i64 m12_4, .i .i64 m12_5, .i .i64 m12_6, .i .i64 m12_7, .i .i64 m12_8]]), (13, .dead), (14, .dead), (15, .dead), (16, .dead)], nx := 17, nt := 53 }
noncomputable def lp72aa : Code := loopAt c72 [true, true, true, true, false, true, false, true, false, true, true, false, true, false]
noncomputable def s72aa (t28_0 : Int) (t28_1 : Int) (t28_2 : Int) (t28_3 : Int) (t28_4 : Int) (t28_5 : Int) (t28_6 : Int) (t28_7 : Int) (t29 : Int) (m1_0 : Int) (m1_1 : Int) (m1_2 : List (List AV)) (m : List (AV × AV)) (m3_0 : Int) (m3_1 : Int) (m3_2 : Int) (m3_3 : Int) (m3_4 : Int) (m3_5 : Int) (m3_6 : Int) (m3_7 : Int) (m4_0 : Int) (m4_1 : Int) (m4_2 : Int) (m4_3 : Int) (m4_4 : Int) (m4_5 : Int) (m4_6 : Int) (m4_7 : Int) (m4_8 : Int) (m7 : Int) (m12_0 : Int) (m12_1 : Int) (m12_2 : Int) (m12_3 : Int) (m12_4 : Int) (m12_5 : Int) (m12_6 : Int) (m12_7 : Int) (m12_8 : Int) (m17_0 : Int) (m17_1 : Int) (m17_2 : Int) (m17_3 : Int) (m17_4 : Int) (m17_5 : Int) (m17_6 : Int) (m17_7 : Int) (m24 : List AV) : St :=
  { t := [(2, .p 0 0 0), (3, .p 1 0 0), (5, .p 4 0 0), (7, .p 12 0 0), (8, .p 17 0 0), (9, .p 24 0 0), (28, .agg [.i .i64 t28_0, .i .i64 t28_1, .i .i64 t28_2, .i .i64 t28_3, .i .i64 t28_4, .i .i64 t28_5, .i .i64 t28_6, .i .i64 t28_7]), (29, .i .i64 t29)], m := [(0, .row 101 [[.mp 2]]), (1, .row 102 [[.fn 72 [.rp [.int .i64, .int .i64, .sl 64] [.i .i64 m1_0, .i .i64 m1_1, .rs 64 m1_2] 0, .p 0 0 0, .p 1 0 0]]]), (2, .mp 104 106 m), (3, .row 104 [[.i .i64 m3_0, .i .i64 m3_1, .i .i64 m3_2, .i .i64 m3_3, .i .i64 m3_4, .i .i64 m3_5, .i .i64 m3_6, .i .i64 m3_7]]), (4, .row 106 [[.i .i64 m4_0, .i .i64 m4_1, .i .i64 m4_2, .i .i64 m4_3, .i .i64 m4_4, .i .i64 m4_5, .i .i64 m4_6, .i .i64 m4_7, .i .i64 m4_8]]), (5, .dead), (6, .dead), (7, .row 3 [[.i .i64 m7]]), (8, .dead), (9, .dead), (10, .dead), (11, .dead), (12, .row 106 [[.i .i64 m12_0, .i .i64 m12_1, .i .i64 m12_2, .i .i64 m12_3, .i .i64 m12_4, .i .i64 m12_5, .i .i64 m12_6, .i .i64 m12_7, .i .i64 m12_8]]), (13, .dead), (14, .dead), (15, .dead), (16, .dead), (17, .row 104 [[.i .i64 m17_0, .i .i64 m17_1, .i .i64 m17_2, .i .i64 m17_3, .i .i64 m17_4, .i .i64 m17_5, .i .i64 m17_6, .i .i64 m17_7]]), (18, .dead), (19, .dead), (20, .dead), (21, .dead), (22, .dead), (23, .dead), (24, .row 104 [m24]), (25, .dead), (26, .dead), (27, .dead)], nx := 28, nt := 53 }
structure S72aa where
  t29 : Int
  m24 : List AV
inductive T72aa where
  | x0 (t29 : Int) (m24 : List AV)
noncomputable def stp72aa (t28_0 : Int) (t28_1 : Int) (t28_2 : Int) (t28_3 : Int) (t28_4 : Int) (t28_5 : Int) (t28_6 : Int) (t28_7 : Int) (m1_0 : Int) (m1_1 : Int) (m1_2 : List (List AV)) (m : List (AV × AV)) (m3_0 : Int) (m3_1 : Int) (m3_2 : Int) (m3_3 : Int) (m3_4 : Int) (m3_5 : Int) (m3_6 : Int) (m3_7 : Int) (m4_0 : Int) (m4_1 : Int) (m4_2 : Int) (m4_3 : Int) (m4_4 : Int) (m4_5 : Int) (m4_6 : Int) (m4_7 : Int) (m4_8 : Int) (m7 : Int) (m12_0 : Int) (m12_1 : Int) (m12_2 : Int) (m12_3 : Int) (m12_4 : Int) (m12_5 : Int) (m12_6 : Int) (m12_7 : Int) (m12_8 : Int) (m17_0 : Int) (m17_1 : Int) (m17_2 : Int) (m17_3 : Int) (m17_4 : Int) (m17_5 : Int) (m17_6 : Int) (m17_7 : Int) (t29 : Int) (m24 : List AV) : Lp S72aa T72aa :=
  cond (decide (t29 < 8)) (cond (intsOf IntKind.i64 [AV.i IntKind.i64 t28_0, AV.i IntKind.i64 t28_1, AV.i IntKind.i64 t28_2, AV.i IntKind.i64 t28_3, AV.i IntKind.i64 t28_4, AV.i IntKind.i64 t28_5, AV.i IntKind.i64 t28_6, AV.i IntKind.i64 t28_7] && (inb t29 8 && inb t29 [AV.i IntKind.i64 t28_0, AV.i IntKind.i64 t28_1, AV.i IntKind.i64 t28_2, AV.i IntKind.i64 t28_3, AV.i IntKind.i64 t28_4, AV.i IntKind.i64 t28_5, AV.i IntKind.i64 t28_6, AV.i IntKind.i64 t28_7].length)) (cond (inb t29 8) (cond (ctsAt (cts Try.prog 104) (0 + t29.toNat * 1) (cts Try.prog 3) && true) (cond (inb t29 8) (cond (ctsAt (cts Try.prog 104) (0 + t29.toNat * 1) (cts Try.prog 3) && true) (.go ⟨IntKind.i64.wrap (t29 + 1), setCs ([m24].getD 0 []) (0 + t29.toNat * 1) [AV.i IntKind.i64 (IntKind.i64.wrap (toI (([m24].getD 0 []).getD (0 + t29.toNat * 1) AV.u) - toI ([AV.i IntKind.i64 t28_0, AV.i IntKind.i64 t28_1, AV.i IntKind.i64 t28_2, AV.i IntKind.i64 t28_3, AV.i IntKind.i64 t28_4, AV.i IntKind.i64 t28_5, AV.i IntKind.i64 t28_6, AV.i IntKind.i64 t28_7].getD t29.toNat AV.u)))]⟩) (.bad)) (.bad)) (.bad)) (.bad)) (.bad)) (.out (.x0 t29 m24))
noncomputable def o72aa_0 (t28_0 : Int) (t28_1 : Int) (t28_2 : Int) (t28_3 : Int) (t28_4 : Int) (t28_5 : Int) (t28_6 : Int) (t28_7 : Int) (m1_0 : Int) (m1_1 : Int) (m1_2 : List (List AV)) (m : List (AV × AV)) (m3_0 : Int) (m3_1 : Int) (m3_2 : Int) (m3_3 : Int) (m3_4 : Int) (m3_5 : Int) (m3_6 : Int) (m3_7 : Int) (m4_0 : Int) (m4_1 : Int) (m4_2 : Int) (m4_3 : Int) (m4_4 : Int) (m4_5 : Int) (m4_6 : Int) (m4_7 : Int) (m4_8 : Int) (m7 : Int) (m12_0 : Int) (m12_1 : Int) (m12_2 : Int) (m12_3 : Int) (m12_4 : Int) (m12_5 : Int) (m12_6 : Int) (m12_7 : Int) (m12_8 : Int) (m17_0 : Int) (m17_1 : Int) (m17_2 : Int) (m17_3 : Int) (m17_4 : Int) (m17_5 : Int) (m17_6 : Int) (m17_7 : Int) (t29 : Int) (m24 : List AV) : St :=
  { t := [(2, .p 0 0 0), (3, .p 1 0 0), (5, .p 4 0 0), (7, .p 12 0 0), (8, .p 17 0 0), (9, .p 24 0 0), (28, .agg [.i .i64 t28_0, .i .i64 t28_1, .i .i64 t28_2, .i .i64 t28_3, .i .i64 t28_4, .i .i64 t28_5, .i .i64 t28_6, .i .i64 t28_7]), (29, .i .i64 t29)], m := [(0, .row 101 [[.mp 2]]), (1, .row 102 [[.fn 72 [.rp [.int .i64, .int .i64, .sl 64] [.i .i64 m1_0, .i .i64 m1_1, .rs 64 m1_2] 0, .p 0 0 0, .p 1 0 0]]]), (2, .mp 104 106 m), (3, .row 104 [[.i .i64 m3_0, .i .i64 m3_1, .i .i64 m3_2, .i .i64 m3_3, .i .i64 m3_4, .i .i64 m3_5, .i .i64 m3_6, .i .i64 m3_7]]), (4, .row 106 [[.i .i64 m4_0, .i .i64 m4_1, .i .i64 m4_2, .i .i64 m4_3, .i .i64 m4_4, .i .i64 m4_5, .i .i64 m4_6, .i .i64 m4_7, .i .i64 m4_8]]), (5, .dead), (6, .dead), (7, .row 3 [[.i .i64 m7]]), (8, .dead), (9, .dead), (10, .dead), (11, .dead), (12, .row 106 [[.i .i64 m12_0, .i .i64 m12_1, .i .i64 m12_2, .i .i64 m12_3, .i .i64 m12_4, .i .i64 m12_5, .i .i64 m12_6, .i .i64 m12_7, .i .i64 m12_8]]), (13, .dead), (14, .dead), (15, .dead), (16, .dead), (17, .row 104 [[.i .i64 m17_0, .i .i64 m17_1, .i .i64 m17_2, .i .i64 m17_3, .i .i64 m17_4, .i .i64 m17_5, .i .i64 m17_6, .i .i64 m17_7]]), (18, .dead), (19, .dead), (20, .dead), (21, .dead), (22, .dead), (23, .dead), (24, .row 104 [m24]), (25, .dead), (26, .dead), (27, .dead)], nx := 28, nt := 53 }
noncomputable def ou72aa (t28_0 : Int) (t28_1 : Int) (t28_2 : Int) (t28_3 : Int) (t28_4 : Int) (t28_5 : Int) (t28_6 : Int) (t28_7 : Int) (m1_0 : Int) (m1_1 : Int) (m1_2 : List (List AV)) (m : List (AV × AV)) (m3_0 : Int) (m3_1 : Int) (m3_2 : Int) (m3_3 : Int) (m3_4 : Int) (m3_5 : Int) (m3_6 : Int) (m3_7 : Int) (m4_0 : Int) (m4_1 : Int) (m4_2 : Int) (m4_3 : Int) (m4_4 : Int) (m4_5 : Int) (m4_6 : Int) (m4_7 : Int) (m4_8 : Int) (m7 : Int) (m12_0 : Int) (m12_1 : Int) (m12_2 : Int) (m12_3 : Int) (m12_4 : Int) (m12_5 : Int) (m12_6 : Int) (m12_7 : Int) (m12_8 : Int) (m17_0 : Int) (m17_1 : Int) (m17_2 : Int) (m17_3 : Int) (m17_4 : Int) (m17_5 : Int) (m17_6 : Int) (m17_7 : Int) : T72aa → Ex × St
  | .x0 t29 m24 => (.ext 2, o72aa_0 t28_0 t28_1 t28_2 t28_3 t28_4 t28_5 t28_6 t28_7 m1_0 m1_1 m1_2 m m3_0 m3_1 m3_2 m3_3 m3_4 m3_5 m3_6 m3_7 m4_0 m4_1 m4_2 m4_3 m4_4 m4_5 m4_6 m4_7 m4_8 m7 m12_0 m12_1 m12_2 m12_3 m12_4 m12_5 m12_6 m12_7 m12_8 m17_0 m17_1 m17_2 m17_3 m17_4 m17_5 m17_6 m17_7 t29 m24)
noncomputable def r72aa (t28_0 : Int) (t28_1 : Int) (t28_2 : Int) (t28_3 : Int) (t28_4 : Int) (t28_5 : Int) (t28_6 : Int) (t28_7 : Int) (m1_0 : Int) (m1_1 : Int) (m1_2 : List (List AV)) (m : List (AV × AV)) (m3_0 : Int) (m3_1 : Int) (m3_2 : Int) (m3_3 : Int) (m3_4 : Int) (m3_5 : Int) (m3_6 : Int) (m3_7 : Int) (m4_0 : Int) (m4_1 : Int) (m4_2 : Int) (m4_3 : Int) (m4_4 : Int) (m4_5 : Int) (m4_6 : Int) (m4_7 : Int) (m4_8 : Int) (m7 : Int) (m12_0 : Int) (m12_1 : Int) (m12_2 : Int) (m12_3 : Int) (m12_4 : Int) (m12_5 : Int) (m12_6 : Int) (m12_7 : Int) (m12_8 : Int) (m17_0 : Int) (m17_1 : Int) (m17_2 : Int) (m17_3 : Int) (m17_4 : Int) (m17_5 : Int) (m17_6 : Int) (m17_7 : Int) (t29 : Int) (m24 : List AV) : Option T72aa := run (fun x => stp72aa t28_0 t28_1 t28_2 t28_3 t28_4 t28_5 t28_6 t28_7 m1_0 m1_1 m1_2 m m3_0 m3_1 m3_2 m3_3 m3_4 m3_5 m3_6 m3_7 m4_0 m4_1 m4_2 m4_3 m4_4 m4_5 m4_6 m4_7 m4_8 m7 m12_0 m12_1 m12_2 m12_3 m12_4 m12_5 m12_6 m12_7 m12_8 m17_0 m17_1 m17_2 m17_3 m17_4 m17_5 m17_6 m17_7 x.t29 x.m24) (⟨t29, m24⟩ : S72aa)
noncomputable def i72aa_0 (t28_0 : Int) (t28_1 : Int) (t28_2 : Int) (t28_3 : Int) (t28_4 : Int) (t28_5 : Int) (t28_6 : Int) (t28_7 : Int) (m1_0 : Int) (m1_1 : Int) (m1_2 : List (List AV)) (m : List (AV × AV)) (m3_0 : Int) (m3_1 : Int) (m3_2 : Int) (m3_3 : Int) (m3_4 : Int) (m3_5 : Int) (m3_6 : Int) (m3_7 : Int) (m4_0 : Int) (m4_1 : Int) (m4_2 : Int) (m4_3 : Int) (m4_4 : Int) (m4_5 : Int) (m4_6 : Int) (m4_7 : Int) (m4_8 : Int) (m7 : Int) (m12_0 : Int) (m12_1 : Int) (m12_2 : Int) (m12_3 : Int) (m12_4 : Int) (m12_5 : Int) (m12_6 : Int) (m12_7 : Int) (m12_8 : Int) (m17_0 : Int) (m17_1 : Int) (m17_2 : Int) (m17_3 : Int) (m17_4 : Int) (m17_5 : Int) (m17_6 : Int) (m17_7 : Int) (t29 : Int) (m24 : List AV) : Bool := match r72aa t28_0 t28_1 t28_2 t28_3 t28_4 t28_5 t28_6 t28_7 m1_0 m1_1 m1_2 m m3_0 m3_1 m3_2 m3_3 m3_4 m3_5 m3_6 m3_7 m4_0 m4_1 m4_2 m4_3 m4_4 m4_5 m4_6 m4_7 m4_8 m7 m12_0 m12_1 m12_2 m12_3 m12_4 m12_5 m12_6 m12_7 m12_8 m17_0 m17_1 m17_2 m17_3 m17_4 m17_5 m17_6 m17_7 t29 m24 with
  | some (.x0 _ _) => true
  | _ => false
noncomputable def v72aa_0_t29 (t28_0 : Int) (t28_1 : Int) (t28_2 : Int) (t28_3 : Int) (t28_4 : Int) (t28_5 : Int) (t28_6 : Int) (t28_7 : Int) (m1_0 : Int) (m1_1 : Int) (m1_2 : List (List AV)) (m : List (AV × AV)) (m3_0 : Int) (m3_1 : Int) (m3_2 : Int) (m3_3 : Int) (m3_4 : Int) (m3_5 : Int) (m3_6 : Int) (m3_7 : Int) (m4_0 : Int) (m4_1 : Int) (m4_2 : Int) (m4_3 : Int) (m4_4 : Int) (m4_5 : Int) (m4_6 : Int) (m4_7 : Int) (m4_8 : Int) (m7 : Int) (m12_0 : Int) (m12_1 : Int) (m12_2 : Int) (m12_3 : Int) (m12_4 : Int) (m12_5 : Int) (m12_6 : Int) (m12_7 : Int) (m12_8 : Int) (m17_0 : Int) (m17_1 : Int) (m17_2 : Int) (m17_3 : Int) (m17_4 : Int) (m17_5 : Int) (m17_6 : Int) (m17_7 : Int) (t29 : Int) (m24 : List AV) : Int := match r72aa t28_0 t28_1 t28_2 t28_3 t28_4 t28_5 t28_6 t28_7 m1_0 m1_1 m1_2 m m3_0 m3_1 m3_2 m3_3 m3_4 m3_5 m3_6 m3_7 m4_0 m4_1 m4_2 m4_3 m4_4 m4_5 m4_6 m4_7 m4_8 m7 m12_0 m12_1 m12_2 m12_3 m12_4 m12_5 m12_6 m12_7 m12_8 m17_0 m17_1 m17_2 m17_3 m17_4 m17_5 m17_6 m17_7 t29 m24 with
  | some (.x0 t29 _) => t29
  | _ => default
noncomputable def v72aa_0_m24 (t28_0 : Int) (t28_1 : Int) (t28_2 : Int) (t28_3 : Int) (t28_4 : Int) (t28_5 : Int) (t28_6 : Int) (t28_7 : Int) (m1_0 : Int) (m1_1 : Int) (m1_2 : List (List AV)) (m : List (AV × AV)) (m3_0 : Int) (m3_1 : Int) (m3_2 : Int) (m3_3 : Int) (m3_4 : Int) (m3_5 : Int) (m3_6 : Int) (m3_7 : Int) (m4_0 : Int) (m4_1 : Int) (m4_2 : Int) (m4_3 : Int) (m4_4 : Int) (m4_5 : Int) (m4_6 : Int) (m4_7 : Int) (m4_8 : Int) (m7 : Int) (m12_0 : Int) (m12_1 : Int) (m12_2 : Int) (m12_3 : Int) (m12_4 : Int) (m12_5 : Int) (m12_6 : Int) (m12_7 : Int) (m12_8 : Int) (m17_0 : Int) (m17_1 : Int) (m17_2 : Int) (m17_3 : Int) (m17_4 : Int) (m17_5 : Int) (m17_6 : Int) (m17_7 : Int) (t29 : Int) (m24 : List AV) : List AV := match r72aa t28_0 t28_1 t28_2 t28_3 t28_4 t28_5 t28_6 t28_7 m1_0 m1_1 m1_2 m m3_0 m3_1 m3_2 m3_3 m3_4 m3_5 m3_6 m3_7 m4_0 m4_1 m4_2 m4_3 m4_4 m4_5 m4_6 m4_7 m4_8 m7 m12_0 m12_1 m12_2 m12_3 m12_4 m12_5 m12_6 m12_7 m12_8 m17_0 m17_1 m17_2 m17_3 m17_4 m17_5 m17_6 m17_7 t29 m24 with
  | some (.x0 _ m24) => m24
  | _ => default
theorem is72aa_0 (t28_0 : Int) (t28_1 : Int) (t28_2 : Int) (t28_3 : Int) (t28_4 : Int) (t28_5 : Int) (t28_6 : Int) (t28_7 : Int) (m1_0 : Int) (m1_1 : Int) (m1_2 : List (List AV)) (m : List (AV × AV)) (m3_0 : Int) (m3_1 : Int) (m3_2 : Int) (m3_3 : Int) (m3_4 : Int) (m3_5 : Int) (m3_6 : Int) (m3_7 : Int) (m4_0 : Int) (m4_1 : Int) (m4_2 : Int) (m4_3 : Int) (m4_4 : Int) (m4_5 : Int) (m4_6 : Int) (m4_7 : Int) (m4_8 : Int) (m7 : Int) (m12_0 : Int) (m12_1 : Int) (m12_2 : Int) (m12_3 : Int) (m12_4 : Int) (m12_5 : Int) (m12_6 : Int) (m12_7 : Int) (m12_8 : Int) (m17_0 : Int) (m17_1 : Int) (m17_2 : Int) (m17_3 : Int) (m17_4 : Int) (m17_5 : Int) (m17_6 : Int) (m17_7 : Int) (t29 : Int) (m24 : List AV) (h : i72aa_0 t28_0 t28_1 t28_2 t28_3 t28_4 t28_5 t28_6 t28_7 m1_0 m1_1 m1_2 m m3_0 m3_1 m3_2 m3_3 m3_4 m3_5 m3_6 m3_7 m4_0 m4_1 m4_2 m4_3 m4_4 m4_5 m4_6 m4_7 m4_8 m7 m12_0 m12_1 m12_2 m12_3 m12_4 m12_5 m12_6 m12_7 m12_8 m17_0 m17_1 m17_2 m17_3 m17_4 m17_5 m17_6 m17_7 t29 m24 = true) : r72aa t28_0 t28_1 t28_2 t28_3 t28_4 t28_5 t28_6 t28_7 m1_0 m1_1 m1_2 m m3_0 m3_1 m3_2 m3_3 m3_4 m3_5 m3_6 m3_7 m4_0 m4_1 m4_2 m4_3 m4_4 m4_5 m4_6 m4_7 m4_8 m7 m12_0 m12_1 m12_2 m12_3 m12_4 m12_5 m12_6 m12_7 m12_8 m17_0 m17_1 m17_2 m17_3 m17_4 m17_5 m17_6 m17_7 t29 m24 = some (.x0 (v72aa_0_t29 t28_0 t28_1 t28_2 t28_3 t28_4 t28_5 t28_6 t28_7 m1_0 m1_1 m1_2 m m3_0 m3_1 m3_2 m3_3 m3_4 m3_5 m3_6 m3_7 m4_0 m4_1 m4_2 m4_3 m4_4 m4_5 m4_6 m4_7 m4_8 m7 m12_0 m12_1 m12_2 m12_3 m12_4 m12_5 m12_6 m12_7 m12_8 m17_0 m17_1 m17_2 m17_3 m17_4 m17_5 m17_6 m17_7 t29 m24) (v72aa_0_m24 t28_0 t28_1 t28_2 t28_3 t28_4 t28_5 t28_6 t28_7 m1_0 m1_1 m1_2 m m3_0 m3_1 m3_2 m3_3 m3_4 m3_5 m3_6 m3_7 m4_0 m4_1 m4_2 m4_3 m4_4 m4_5 m4_6 m4_7 m4_8 m7 m12_0 m12_1 m12_2 m12_3 m12_4 m12_5 m12_6 m12_7 m12_8 m17_0 m17_1 m17_2 m17_3 m17_4 m17_5 m17_6 m17_7 t29 m24)) := by
  unfold i72aa_0 at h
  unfold v72aa_0_t29 v72aa_0_m24
  generalize r72aa t28_0 t28_1 t28_2 t28_3 t28_4 t28_5 t28_6 t28_7 m1_0 m1_1 m1_2 m m3_0 m3_1 m3_2 m3_3 m3_4 m3_5 m3_6 m3_7 m4_0 m4_1 m4_2 m4_3 m4_4 m4_5 m4_6 m4_7 m4_8 m7 m12_0 m12_1 m12_2 m12_3 m12_4 m12_5 m12_6 m12_7 m12_8 m17_0 m17_1 m17_2 m17_3 m17_4 m17_5 m17_6 m17_7 t29 m24 = r at h ⊢
  rcases r with _ | y
  · cases h
  · cases y <;> first | rfl | cases h
variable [LQ]
noncomputable def l72aa (st : St) : Option (List (Bool × Ex × St)) := match normV Try.prog [(2, none), (3, none), (5, none), (7, none), (8, none), (9, none), (28, none), (29, none)] 28 st with
  | some ([.p 0 0 0, .p 1 0 0, .p 4 0 0, .p 12 0 0, .p 17 0 0, .p 24 0 0, .agg [.i .i64 t28_0, .i .i64 t28_1, .i .i64 t28_2, .i .i64 t28_3, .i .i64 t28_4, .i .i64 t28_5, .i .i64 t28_6, .i .i64 t28_7], .i .i64 t29], (0, .row 101 [[.mp 2]]) :: (1, .row 102 [[.fn 72 [.rp [.int .i64, .int .i64, .sl 64] [.i .i64 m1_0, .i .i64 m1_1, .rs 64 m1_2] 0, .p 0 0 0, .p 1 0 0]]]) :: (2, .mp 104 106 m) :: (3, .row 104 [[.i .i64 m3_0, .i .i64 m3_1, .i .i64 m3_2, .i .i64 m3_3, .i .i64 m3_4, .i .i64 m3_5, .i .i64 m3_6, .i .i64 m3_7]]) :: (4, .row 106 [[.i .i64 m4_0, .i .i64 m4_1, .i .i64 m4_2, .i .i64 m4_3, .i .i64 m4_4, .i .i64 m4_5, .i .i64 m4_6, .i .i64 m4_7, .i .i64 m4_8]]) :: (5, .dead) :: (6, .dead) :: (7, .row 3 [[.i .i64 m7]]) :: (8, .dead) :: (9, .dead) :: (10, .dead) :: (11, .dead) :: (12, .row 106 [[.i .i64 m12_0, .i .i64 m12_1, .i .i64 m12_2, .i .i64 m12_3, .i .i64 m12_4, .i .i64 m12_5, .i .i64 m12_6, .i .i64 m12_7, .i .i64 m12_8]]) :: (13, .dead) :: (14, .dead) :: (15, .dead) :: (16, .dead) :: (17, .row 104 [[.i .i64 m17_0, .i .i64 m17_1, .i .i64 m17_2, .i .i64 m17_3, .i .i64 m17_4, .i .i64 m17_5, .i .i64 m17_6, .i .i64 m17_7]]) :: (18, .dead) :: (19, .dead) :: (20, .dead) :: (21, .dead) :: (22, .dead) :: (23, .dead) :: (24, .row 104 [m24]) :: (25, .dead) :: (26, .dead) :: (27, .dead) :: [], 28, 53) => some [(i72aa_0 t28_0 t28_1 t28_2 t28_3 t28_4 t28_5 t28_6 t28_7 m1_0 m1_1 m1_2 m m3_0 m3_1 m3_2 m3_3 m3_4 m3_5 m3_6 m3_7 m4_0 m4_1 m4_2 m4_3 m4_4 m4_5 m4_6 m4_7 m4_8 m7 m12_0 m12_1 m12_2 m12_3 m12_4 m12_5 m12_6 m12_7 m12_8 m17_0 m17_1 m17_2 m17_3 m17_4 m17_5 m17_6 m17_7 t29 m24, .ext 2, o72aa_0 t28_0 t28_1 t28_2 t28_3 t28_4 t28_5 t28_6 t28_7 m1_0 m1_1 m1_2 m m3_0 m3_1 m3_2 m3_3 m3_4 m3_5 m3_6 m3_7 m4_0 m4_1 m4_2 m4_3 m4_4 m4_5 m4_6 m4_7 m4_8 m7 m12_0 m12_1 m12_2 m12_3 m12_4 m12_5 m12_6 m12_7 m12_8 m17_0 m17_1 m17_2 m17_3 m17_4 m17_5 m17_6 m17_7 (v72aa_0_t29 t28_0 t28_1 t28_2 t28_3 t28_4 t28_5 t28_6 t28_7 m1_0 m1_1 m1_2 m m3_0 m3_1 m3_2 m3_3 m3_4 m3_5 m3_6 m3_7 m4_0 m4_1 m4_2 m4_3 m4_4 m4_5 m4_6 m4_7 m4_8 m7 m12_0 m12_1 m12_2 m12_3 m12_4 m12_5 m12_6 m12_7 m12_8 m17_0 m17_1 m17_2 m17_3 m17_4 m17_5 m17_6 m17_7 t29 m24) (v72aa_0_m24 t28_0 t28_1 t28_2 t28_3 t28_4 t28_5 t28_6 t28_7 m1_0 m1_1 m1_2 m m3_0 m3_1 m3_2 m3_3 m3_4 m3_5 m3_6 m3_7 m4_0 m4_1 m4_2 m4_3 m4_4 m4_5 m4_6 m4_7 m4_8 m7 m12_0 m12_1 m12_2 m12_3 m12_4 m12_5 m12_6 m12_7 m12_8 m17_0 m17_1 m17_2 m17_3 m17_4 m17_5 m17_6 m17_7 t29 m24))]
  | _ => none
structure S72a where
  m : List (AV × AV)
  m12_0 : Int
  m12_1 : Int
  m12_2 : Int
  m12_3 : Int
  m12_4 : Int
  m12_5 : Int
  m12_6 : Int
  m12_7 : Int
  m12_8 : Int
inductive T72a where
noncomputable def R72 (m1_0 m1_1 : Int) (m1_2 : List (List AV)) (m : List (AV × AV)) (m3_0 m3_1 m3_2 m3_3 m3_4 m3_5 m3_6 m3_7 m4_0 m4_1 m4_2 m4_3 m4_4 m4_5 m4_6 m4_7 m4_8 m7 m12_0 m12_1 m12_2 m12_3 m12_4 m12_5 m12_6 m12_7 m12_8 : Int) (it : List AV) (k : Nat) : Int := fI ([v72aa_0_m24 (fI it 0) (fI it 1) (fI it 2) (fI it 3) (fI it 4) (fI it 5) (fI it 6) (fI it 7) m1_0 m1_1 m1_2 m m3_0 m3_1 m3_2 m3_3 m3_4 m3_5 m3_6 m3_7 m4_0 m4_1 m4_2 m4_3 m4_4 m4_5 m4_6 m4_7 m4_8 m7 m12_0 m12_1 m12_2 m12_3 m12_4 m12_5 m12_6 m12_7 m12_8 (fI it 0) (fI it 1) (fI it 2) (fI it 3) (fI it 4) (fI it 5) (fI it 6) (fI it 7) 0 (setCs ([[AV.i IntKind.i64 0, AV.i IntKind.i64 0, AV.i IntKind.i64 0, AV.i IntKind.i64 0, AV.i IntKind.i64 0, AV.i IntKind.i64 0, AV.i IntKind.i64 0, AV.i IntKind.i64 0]].getD 0 []) 0 [AV.i IntKind.i64 m3_0, AV.i IntKind.i64 m3_1, AV.i IntKind.i64 m3_2, AV.i IntKind.i64 m3_3, AV.i IntKind.i64 m3_4, AV.i IntKind.i64 m3_5, AV.i IntKind.i64 m3_6, AV.i IntKind.i64 m3_7])].getD 0 []) k
noncomputable def F72 (m1_0 m1_1 : Int) (m1_2 : List (List AV)) (m : List (AV × AV)) (m3_0 m3_1 m3_2 m3_3 m3_4 m3_5 m3_6 m3_7 m4_0 m4_1 m4_2 m4_3 m4_4 m4_5 m4_6 m4_7 m4_8 m7 m12_0 m12_1 m12_2 m12_3 m12_4 m12_5 m12_6 m12_7 m12_8 : Int) (it : List AV) : (Nat → Int) × Mp := LQ.F m1_0 m1_1 m1_2 m1_0 m1_1 m1_2 (R72 m1_0 m1_1 m1_2 m m3_0 m3_1 m3_2 m3_3 m3_4 m3_5 m3_6 m3_7 m4_0 m4_1 m4_2 m4_3 m4_4 m4_5 m4_6 m4_7 m4_8 m7 m12_0 m12_1 m12_2 m12_3 m12_4 m12_5 m12_6 m12_7 m12_8 it 0) (R72 m1_0 m1_1 m1_2 m m3_0 m3_1 m3_2 m3_3 m3_4 m3_5 m3_6 m3_7 m4_0 m4_1 m4_2 m4_3 m4_4 m4_5 m4_6 m4_7 m4_8 m7 m12_0 m12_1 m12_2 m12_3 m12_4 m12_5 m12_6 m12_7 m12_8 it 1) (R72 m1_0 m1_1 m1_2 m m3_0 m3_1 m3_2 m3_3 m3_4 m3_5 m3_6 m3_7 m4_0 m4_1 m4_2 m4_3 m4_4 m4_5 m4_6 m4_7 m4_8 m7 m12_0 m12_1 m12_2 m12_3 m12_4 m12_5 m12_6 m12_7 m12_8 it 2) (R72 m1_0 m1_1 m1_2 m m3_0 m3_1 m3_2 m3_3 m3_4 m3_5 m3_6 m3_7 m4_0 m4_1 m4_2 m4_3 m4_4 m4_5 m4_6 m4_7 m4_8 m7 m12_0 m12_1 m12_2 m12_3 m12_4 m12_5 m12_6 m12_7 m12_8 it 3) (R72 m1_0 m1_1 m1_2 m m3_0 m3_1 m3_2 m3_3 m3_4 m3_5 m3_6 m3_7 m4_0 m4_1 m4_2 m4_3 m4_4 m4_5 m4_6 m4_7 m4_8 m7 m12_0 m12_1 m12_2 m12_3 m12_4 m12_5 m12_6 m12_7 m12_8 it 4) (R72 m1_0 m1_1 m1_2 m m3_0 m3_1 m3_2 m3_3 m3_4 m3_5 m3_6 m3_7 m4_0 m4_1 m4_2 m4_3 m4_4 m4_5 m4_6 m4_7 m4_8 m7 m12_0 m12_1 m12_2 m12_3 m12_4 m12_5 m12_6 m12_7 m12_8 it 5) (R72 m1_0 m1_1 m1_2 m m3_0 m3_1 m3_2 m3_3 m3_4 m3_5 m3_6 m3_7 m4_0 m4_1 m4_2 m4_3 m4_4 m4_5 m4_6 m4_7 m4_8 m7 m12_0 m12_1 m12_2 m12_3 m12_4 m12_5 m12_6 m12_7 m12_8 it 6) (R72 m1_0 m1_1 m1_2 m m3_0 m3_1 m3_2 m3_3 m3_4 m3_5 m3_6 m3_7 m4_0 m4_1 m4_2 m4_3 m4_4 m4_5 m4_6 m4_7 m4_8 m7 m12_0 m12_1 m12_2 m12_3 m12_4 m12_5 m12_6 m12_7 m12_8 it 7) m
noncomputable def G72 (m1_0 m1_1 : Int) (m1_2 : List (List AV)) (m : List (AV × AV)) (m3_0 m3_1 m3_2 m3_3 m3_4 m3_5 m3_6 m3_7 m4_0 m4_1 m4_2 m4_3 m4_4 m4_5 m4_6 m4_7 m4_8 m7 m12_0 m12_1 m12_2 m12_3 m12_4 m12_5 m12_6 m12_7 m12_8 : Int) (it : List AV) : Bool := LQ.G m1_0 m1_1 m1_2 m1_0 m1_1 m1_2 (R72 m1_0 m1_1 m1_2 m m3_0 m3_1 m3_2 m3_3 m3_4 m3_5 m3_6 m3_7 m4_0 m4_1 m4_2 m4_3 m4_4 m4_5 m4_6 m4_7 m4_8 m7 m12_0 m12_1 m12_2 m12_3 m12_4 m12_5 m12_6 m12_7 m12_8 it 0) (R72 m1_0 m1_1 m1_2 m m3_0 m3_1 m3_2 m3_3 m3_4 m3_5 m3_6 m3_7 m4_0 m4_1 m4_2 m4_3 m4_4 m4_5 m4_6 m4_7 m4_8 m7 m12_0 m12_1 m12_2 m12_3 m12_4 m12_5 m12_6 m12_7 m12_8 it 1) (R72 m1_0 m1_1 m1_2 m m3_0 m3_1 m3_2 m3_3 m3_4 m3_5 m3_6 m3_7 m4_0 m4_1 m4_2 m4_3 m4_4 m4_5 m4_6 m4_7 m4_8 m7 m12_0 m12_1 m12_2 m12_3 m12_4 m12_5 m12_6 m12_7 m12_8 it 2) (R72 m1_0 m1_1 m1_2 m m3_0 m3_1 m3_2 m3_3 m3_4 m3_5 m3_6 m3_7 m4_0 m4_1 m4_2 m4_3 m4_4 m4_5 m4_6 m4_7 m4_8 m7 m12_0 m12_1 m12_2 m12_3 m12_4 m12_5 m12_6 m12_7 m12_8 it 3) (R72 m1_0 m1_1 m1_2 m m3_0 m3_1 m3_2 m3_3 m3_4 m3_5 m3_6 m3_7 m4_0 m4_1 m4_2 m4_3 m4_4 m4_5 m4_6 m4_7 m4_8 m7 m12_0 m12_1 m12_2 m12_3 m12_4 m12_5 m12_6 m12_7 m12_8 it 4) (R72 m1_0 m1_1 m1_2 m m3_0 m3_1 m3_2 m3_3 m3_4 m3_5 m3_6 m3_7 m4_0 m4_1 m4_2 m4_3 m4_4 m4_5 m4_6 m4_7 m4_8 m7 m12_0 m12_1 m12_2 m12_3 m12_4 m12_5 m12_6 m12_7 m12_8 it 5) (R72 m1_0 m1_1 m1_2 m m3_0 m3_1 m3_2 m3_3 m3_4 m3_5 m3_6 m3_7 m4_0 m4_1 m4_2 m4_3 m4_4 m4_5 m4_6 m4_7 m4_8 m7 m12_0 m12_1 m12_2 m12_3 m12_4 m12_5 m12_6 m12_7 m12_8 it 6) (R72 m1_0 m1_1 m1_2 m m3_0 m3_1 m3_2 m3_3 m3_4 m3_5 m3_6 m3_7 m4_0 m4_1 m4_2 m4_3 m4_4 m4_5 m4_6 m4_7 m4_8 m7 m12_0 m12_1 m12_2 m12_3 m12_4 m12_5 m12_6 m12_7 m12_8 it 7) m
noncomputable def stp72a (t21_0 : Int) (t21_1 : Int) (t21_2 : List (List AV)) (t21_3 : Int) (t21_4 : Int) (t21_5 : Int) (t21_6 : Int) (t21_7 : Int) (t21_8 : Int) (t21_9 : Int) (t21_10 : Int) (m1_0 : Int) (m1_1 : Int) (m1_2 : List (List AV)) (m3_0 : Int) (m3_1 : Int) (m3_2 : Int) (m3_3 : Int) (m3_4 : Int) (m3_5 : Int) (m3_6 : Int) (m3_7 : Int) (m4_0 : Int) (m4_1 : Int) (m4_2 : Int) (m4_3 : Int) (m4_4 : Int) (m4_5 : Int) (m4_6 : Int) (m4_7 : Int) (m4_8 : Int) (m7 : Int) (m : List (AV × AV)) (m12_0 : Int) (m12_1 : Int) (m12_2 : Int) (m12_3 : Int) (m12_4 : Int) (m12_5 : Int) (m12_6 : Int) (m12_7 : Int) (m12_8 : Int) (it : List AV) : Lp S72a T72a :=
  cond (inb m7 8) (cond (ctsAt (cts Try.prog 104) (0 + m7.toNat * 1) (cts Try.prog 3) && true) (cond (toI ((([[AV.i IntKind.i64 0, AV.i IntKind.i64 0, AV.i IntKind.i64 0, AV.i IntKind.i64 0, AV.i IntKind.i64 0, AV.i IntKind.i64 0, AV.i IntKind.i64 0, AV.i IntKind.i64 0]].set 0 (setCs ([[AV.i IntKind.i64 0, AV.i IntKind.i64 0, AV.i IntKind.i64 0, AV.i IntKind.i64 0, AV.i IntKind.i64 0, AV.i IntKind.i64 0, AV.i IntKind.i64 0, AV.i IntKind.i64 0]].getD 0 []) 0 [AV.i IntKind.i64 (fI it 0), AV.i IntKind.i64 (fI it 1), AV.i IntKind.i64 (fI it 2), AV.i IntKind.i64 (fI it 3), AV.i IntKind.i64 (fI it 4), AV.i IntKind.i64 (fI it 5), AV.i IntKind.i64 (fI it 6), AV.i IntKind.i64 (fI it 7)])).getD 0 []).getD (0 + m7.toNat * 1) AV.u) == 0) (.go ⟨m, m12_0, m12_1, m12_2, m12_3, m12_4, m12_5, m12_6, m12_7, m12_8⟩) (cond (i72aa_0 (fI it 0) (fI it 1) (fI it 2) (fI it 3) (fI it 4) (fI it 5) (fI it 6) (fI it 7) m1_0 m1_1 m1_2 m m3_0 m3_1 m3_2 m3_3 m3_4 m3_5 m3_6 m3_7 m4_0 m4_1 m4_2 m4_3 m4_4 m4_5 m4_6 m4_7 m4_8 m7 m12_0 m12_1 m12_2 m12_3 m12_4 m12_5 m12_6 m12_7 m12_8 (fI it 0) (fI it 1) (fI it 2) (fI it 3) (fI it 4) (fI it 5) (fI it 6) (fI it 7) 0 (setCs ([[AV.i IntKind.i64 0, AV.i IntKind.i64 0, AV.i IntKind.i64 0, AV.i IntKind.i64 0, AV.i IntKind.i64 0, AV.i IntKind.i64 0, AV.i IntKind.i64 0, AV.i IntKind.i64 0]].getD 0 []) 0 [AV.i IntKind.i64 m3_0, AV.i IntKind.i64 m3_1, AV.i IntKind.i64 m3_2, AV.i IntKind.i64 m3_3, AV.i IntKind.i64 m3_4, AV.i IntKind.i64 m3_5, AV.i IntKind.i64 m3_6, AV.i IntKind.i64 m3_7])) (cond (G72 m1_0 m1_1 m1_2 m m3_0 m3_1 m3_2 m3_3 m3_4 m3_5 m3_6 m3_7 m4_0 m4_1 m4_2 m4_3 m4_4 m4_5 m4_6 m4_7 m4_8 m7 m12_0 m12_1 m12_2 m12_3 m12_4 m12_5 m12_6 m12_7 m12_8 it && true) (cond (decide (IntKind.i64.wrap (1 + (F72 m1_0 m1_1 m1_2 m m3_0 m3_1 m3_2 m3_3 m3_4 m3_5 m3_6 m3_7 m4_0 m4_1 m4_2 m4_3 m4_4 m4_5 m4_6 m4_7 m4_8 m7 m12_0 m12_1 m12_2 m12_3 m12_4 m12_5 m12_6 m12_7 m12_8 it).fst 8) < m12_8)) (.go ⟨(F72 m1_0 m1_1 m1_2 m m3_0 m3_1 m3_2 m3_3 m3_4 m3_5 m3_6 m3_7 m4_0 m4_1 m4_2 m4_3 m4_4 m4_5 m4_6 m4_7 m4_8 m7 m12_0 m12_1 m12_2 m12_3 m12_4 m12_5 m12_6 m12_7 m12_8 it).snd, fI it 0, fI it 1, fI it 2, fI it 3, fI it 4, fI it 5, fI it 6, fI it 7, IntKind.i64.wrap (1 + (F72 m1_0 m1_1 m1_2 m m3_0 m3_1 m3_2 m3_3 m3_4 m3_5 m3_6 m3_7 m4_0 m4_1 m4_2 m4_3 m4_4 m4_5 m4_6 m4_7 m4_8 m7 m12_0 m12_1 m12_2 m12_3 m12_4 m12_5 m12_6 m12_7 m12_8 it).fst 8)⟩) (.go ⟨(F72 m1_0 m1_1 m1_2 m m3_0 m3_1 m3_2 m3_3 m3_4 m3_5 m3_6 m3_7 m4_0 m4_1 m4_2 m4_3 m4_4 m4_5 m4_6 m4_7 m4_8 m7 m12_0 m12_1 m12_2 m12_3 m12_4 m12_5 m12_6 m12_7 m12_8 it).snd, m12_0, m12_1, m12_2, m12_3, m12_4, m12_5, m12_6, m12_7, m12_8⟩)) (.bad)) (.bad))) (.bad)) (.bad)
noncomputable def ou72a (t21_0 : Int) (t21_1 : Int) (t21_2 : List (List AV)) (t21_3 : Int) (t21_4 : Int) (t21_5 : Int) (t21_6 : Int) (t21_7 : Int) (t21_8 : Int) (t21_9 : Int) (t21_10 : Int) (m1_0 : Int) (m1_1 : Int) (m1_2 : List (List AV)) (m3_0 : Int) (m3_1 : Int) (m3_2 : Int) (m3_3 : Int) (m3_4 : Int) (m3_5 : Int) (m3_6 : Int) (m3_7 : Int) (m4_0 : Int) (m4_1 : Int) (m4_2 : Int) (m4_3 : Int) (m4_4 : Int) (m4_5 : Int) (m4_6 : Int) (m4_7 : Int) (m4_8 : Int) (m7 : Int) : T72a → Ex × St := fun y => nomatch y
noncomputable def r72a (t21_0 : Int) (t21_1 : Int) (t21_2 : List (List AV)) (t21_3 : Int) (t21_4 : Int) (t21_5 : Int) (t21_6 : Int) (t21_7 : Int) (t21_8 : Int) (t21_9 : Int) (t21_10 : Int) (m1_0 : Int) (m1_1 : Int) (m1_2 : List (List AV)) (m3_0 : Int) (m3_1 : Int) (m3_2 : Int) (m3_3 : Int) (m3_4 : Int) (m3_5 : Int) (m3_6 : Int) (m3_7 : Int) (m4_0 : Int) (m4_1 : Int) (m4_2 : Int) (m4_3 : Int) (m4_4 : Int) (m4_5 : Int) (m4_6 : Int) (m4_7 : Int) (m4_8 : Int) (m7 : Int) (m : List (AV × AV)) (m12_0 : Int) (m12_1 : Int) (m12_2 : Int) (m12_3 : Int) (m12_4 : Int) (m12_5 : Int) (m12_6 : Int) (m12_7 : Int) (m12_8 : Int) (da2 db2 : Int) (cs2 : List (List AV)) (k0 k1 k2 k3 k4 k5 k6 k7 : Int) : Option (Sum S72a T72a) := iterR (fun x it => stp72a t21_0 t21_1 t21_2 t21_3 t21_4 t21_5 t21_6 t21_7 t21_8 t21_9 t21_10 m1_0 m1_1 m1_2 m3_0 m3_1 m3_2 m3_3 m3_4 m3_5 m3_6 m3_7 m4_0 m4_1 m4_2 m4_3 m4_4 m4_5 m4_6 m4_7 m4_8 m7 x.m x.m12_0 x.m12_1 x.m12_2 x.m12_3 x.m12_4 x.m12_5 x.m12_6 x.m12_7 x.m12_8 it) (patX da2 db2 cs2 k0 k1 k2 k3 k4 k5 k6 k7) (⟨m, m12_0, m12_1, m12_2, m12_3, m12_4, m12_5, m12_6, m12_7, m12_8⟩ : S72a)
noncomputable def i72a_0 (t21_0 : Int) (t21_1 : Int) (t21_2 : List (List AV)) (t21_3 : Int) (t21_4 : Int) (t21_5 : Int) (t21_6 : Int) (t21_7 : Int) (t21_8 : Int) (t21_9 : Int) (t21_10 : Int) (m1_0 : Int) (m1_1 : Int) (m1_2 : List (List AV)) (m3_0 : Int) (m3_1 : Int) (m3_2 : Int) (m3_3 : Int) (m3_4 : Int) (m3_5 : Int) (m3_6 : Int) (m3_7 : Int) (m4_0 : Int) (m4_1 : Int) (m4_2 : Int) (m4_3 : Int) (m4_4 : Int) (m4_5 : Int) (m4_6 : Int) (m4_7 : Int) (m4_8 : Int) (m7 : Int) (m : List (AV × AV)) (m12_0 : Int) (m12_1 : Int) (m12_2 : Int) (m12_3 : Int) (m12_4 : Int) (m12_5 : Int) (m12_6 : Int) (m12_7 : Int) (m12_8 : Int) (da2 db2 : Int) (cs2 : List (List AV)) (k0 k1 k2 k3 k4 k5 k6 k7 : Int) : Bool := match r72a t21_0 t21_1 t21_2 t21_3 t21_4 t21_5 t21_6 t21_7 t21_8 t21_9 t21_10 m1_0 m1_1 m1_2 m3_0 m3_1 m3_2 m3_3 m3_4 m3_5 m3_6 m3_7 m4_0 m4_1 m4_2 m4_3 m4_4 m4_5 m4_6 m4_7 m4_8 m7 m m12_0 m12_1 m12_2 m12_3 m12_4 m12_5 m12_6 m12_7 m12_8 da2 db2 cs2 k0 k1 k2 k3 k4 k5 k6 k7 with
  | some (.inl ⟨_, _, _, _, _, _, _, _, _, _⟩) => true
  | _ => false
noncomputable def v72a_0_m (t21_0 : Int) (t21_1 : Int) (t21_2 : List (List AV)) (t21_3 : Int) (t21_4 : Int) (t21_5 : Int) (t21_6 : Int) (t21_7 : Int) (t21_8 : Int) (t21_9 : Int) (t21_10 : Int) (m1_0 : Int) (m1_1 : Int) (m1_2 : List (List AV)) (m3_0 : Int) (m3_1 : Int) (m3_2 : Int) (m3_3 : Int) (m3_4 : Int) (m3_5 : Int) (m3_6 : Int) (m3_7 : Int) (m4_0 : Int) (m4_1 : Int) (m4_2 : Int) (m4_3 : Int) (m4_4 : Int) (m4_5 : Int) (m4_6 : Int) (m4_7 : Int) (m4_8 : Int) (m7 : Int) (m : List (AV × AV)) (m12_0 : Int) (m12_1 : Int) (m12_2 : Int) (m12_3 : Int) (m12_4 : Int) (m12_5 : Int) (m12_6 : Int) (m12_7 : Int) (m12_8 : Int) (da2 db2 : Int) (cs2 : List (List AV)) (k0 k1 k2 k3 k4 k5 k6 k7 : Int) : List (AV × AV) := match r72a t21_0 t21_1 t21_2 t21_3 t21_4 t21_5 t21_6 t21_7 t21_8 t21_9 t21_10 m1_0 m1_1 m1_2 m3_0 m3_1 m3_2 m3_3 m3_4 m3_5 m3_6 m3_7 m4_0 m4_1 m4_2 m4_3 m4_4 m4_5 m4_6 m4_7 m4_8 m7 m m12_0 m12_1 m12_2 m12_3 m12_4 m12_5 m12_6 m12_7 m12_8 da2 db2 cs2 k0 k1 k2 k3 k4 k5 k6 k7 with
  | some (.inl ⟨m, _, _, _, _, _, _, _, _, _⟩) => m
  | _ => default
noncomputable def v72a_0_m12_0 (t21_0 : Int) (t21_1 : Int) (t21_2 : List (List AV)) (t21_3 : Int) (t21_4 : Int) (t21_5 : Int) (t21_6 : Int) (t21_7 : Int) (t21_8 : Int) (t21_9 : Int) (t21_10 : Int) (m1_0 : Int) (m1_1 : Int) (m1_2 : List (List AV)) (m3_0 : Int) (m3_1 : Int) (m3_2 : Int) (m3_3 : Int) (m3_4 : Int) (m3_5 : Int) (m3_6 : Int) (m3_7 : Int) (m4_0 : Int) (m4_1 : Int) (m4_2 : Int) (m4_3 : Int) (m4_4 : Int) (m4_5 : Int) (m4_6 : Int) (m4_7 : Int) (m4_8 : Int) (m7 : Int) (m : List (AV × AV)) (m12_0 : Int) (m12_1 : Int) (m12_2 : Int) (m12_3 : Int) (m12_4 : Int) (m12_5 : Int) (m12_6 : Int) (m12_7 : Int) (m12_8 : Int) (da2 db2 : Int) (cs2 : List (List AV)) (k0 k1 k2 k3 k4 k5 k6 k7 : Int) : Int := match r72a t21_0 t21_1 t21_2 t21_3 t21_4 t21_5 t21_6 t21_7 t21_8 t21_9 t21_10 m1_0 m1_1 m1_2 m3_0 m3_1 m3_2 m3_3 m3_4 m3_5 m3_6 m3_7 m4_0 m4_1 m4_2 m4_3 m4_4 m4_5 m4_6 m4_7 m4_8 m7 m m12_0 m12_1 m12_2 m12_3 m12_4 m12_5 m12_6 m12_7 m12_8 da2 db2 cs2 k0 k1 k2 k3 k4 k5 k6 k7 with
  | some (.inl ⟨_, m12_0, _, _, _, _, _, _, _, _⟩) => m12_0
  | _ => default
noncomputable def v72a_0_m12_1 (t21_0 : Int) (t21_1 : Int) (t21_2 : List (List AV)) (t21_3 : Int) (t21_4 : Int) (t21_5 : Int) (t21_6 : Int) (t21_7 : Int) (t21_8 : Int) (t21_9 : Int) (t21_10 : Int) (m1_0 : Int) (m1_1 : Int) (m1_2 : List (List AV)) (m3_0 : Int) (m3_1 : Int) (m3_2 : Int) (m3_3 : Int) (m3_4 : Int) (m3_5 : Int) (m3_6 : Int) (m3_7 : Int) (m4_0 : Int) (m4_1 : Int) (m4_2 : Int) (m4_3 : Int) (m4_4 : Int) (m4_5 : Int) (m4_6 : Int) (m4_7 : Int) (m4_8 : Int) (m7 : Int) (m : List (AV × AV)) (m12_0 : Int) (m12_1 : Int) (m12_2 : Int) (m12_3 : Int) (m12_4 : Int) (m12_5 : Int) (m12_6 : Int) (m12_7 : Int) (m12_8 : Int) (da2 db2 : Int) (cs2 : List (List AV)) (k0 k1 k2 k3 k4 k5 k6 k7 : Int) : Int := match r72a t21_0 t21_1 t21_2 t21_3 t21_4 t21_5 t21_6 t21_7 t21_8 t21_9 t21_10 m1_0 m1_1 m1_2 m3_0 m3_1 m3_2 m3_3 m3_4 m3_5 m3_6 m3_7 m4_0 m4_1 m4_2 m4_3 m4_4 m4_5 m4_6 m4_7 m4_8 m7 m m12_0 m12_1 m12_2 m12_3 m12_4 m12_5 m12_6 m12_7 m12_8 da2 db2 cs2 k0 k1 k2 k3 k4 k5 k6 k7 with
  | some (.inl ⟨_, _, m12_1, _, _, _, _, _, _, _⟩) => m12_1
  | _ => default
noncomputable def v72a_0_m12_2 (t21_0 : Int) (t21_1 : Int) (t21_2 : List (List AV)) (t21_3 : Int) (t21_4 : Int) (t21_5 : Int) (t21_6 : Int) (t21_7 : Int) (t21_8 : Int) (t21_9 : Int) (t21_10 : Int) (m1_0 : Int) (m1_1 : Int) (m1_2 : List (List AV)) (m3_0 : Int) (m3_1 : Int) (m3_2 : Int) (m3_3 : Int) (m3_4 : Int) (m3_5 : Int) (m3_6 : Int) (m3_7 : Int) (m4_0 : Int) (m4_1 : Int) (m4_2 : Int) (m4_3 : Int) (m4_4 : Int) (m4_5 : Int) (m4_6 : Int) (m4_7 : Int) (m4_8 : Int) (m7 : Int) (m : List (AV × AV)) (m12_0 : Int) (m12_1 : Int) (m12_2 : Int) (m12_3 : Int) (m12_4 : Int) (m12_5 : Int) (m12_6 : Int) (m12_7 : Int) (m12_8 : Int) (da2 db2 : Int) (cs2 : List (List AV)) (k0 k1 k2 k3 k4 k5 k6 k7 : Int) : Int := match r72a t21_0 t21_1 t21_2 t21_3 t21_4 t21_5 t21_6 t21_7 t21_8 t21_9 t21_10 m1_0 m1_1 m1_2 m3_0 m3_1 m3_2 m3_3 m3_4 m3_5 m3_6 m3_7 m4_0 m4_1 m4_2 m4_3 m4_4 m4_5 m4_6 m4_7 m4_8 m7 m m12_0 m12_1 m12_2 m12_3 m12_4 m12_5 m12_6 m12_7 m12_8 da2 db2 cs2 k0 k1 k2 k3 k4 k5 k6 k7 with
  | some (.inl ⟨_, _, _, m12_2, _, _, _, _, _, _⟩) => m12_2
  | _ => default
noncomputable def v72a_0_m12_3 (t21_0 : Int) (t21_1 : Int) (t21_2 : List (List AV)) (t21_3 : Int) (t21_4 : Int) (t21_5 : Int) (t21_6 : Int) (t21_7 : Int) (t21_8 : Int) (t21_9 : Int) (t21_10 : Int) (m1_0 : Int) (m1_1 : Int) (m1_2 : List (List AV)) (m3_0 : Int) (m3_1 : Int) (m3_2 : Int) (m3_3 : Int) (m3_4 : Int) (m3_5 : Int) (m3_6 : Int) (m3_7 : Int) (m4_0 : Int) (m4_1 : Int) (m4_2 : Int) (m4_3 : Int) (m4_4 : Int) (m4_5 : Int) (m4_6 : Int) (m4_7 : Int) (m4_8 : Int) (m7 : Int) (m : List (AV × AV)) (m12_0 : Int) (m12_1 : Int) (m12_2 : Int) (m12_3 : Int) (m12_4 : Int) (m12_5 : Int) (m12_6 : Int) (m12_7 : Int) (m12_8 : Int) (da2 db2 : Int) (cs2 : List (List AV)) (k0 k1 k2 k3 k4 k5 k6 k7 : Int) : Int := match r72a t21_0 t21_1 t21_2 t21_3 t21_4 t21_5 t21_6 t21_7 t21_8 t21_9 t21_10 m1_0 m1_1 m1_2 m3_0 m3_1 m3_2 m3_3 m3_4 m3_5 m3_6 m3_7 m4_0 m4_1 m4_2 m4_3 m4_4 m4_5 m4_6 m4_7 m4_8 m7 m m12_0 m12_1 m12_2 m12_3 m12_4 m12_5 m12_6 m12_7 m12_8 da2 db2 cs2 k0 k1 k2 k3 k4 k5 k6 k7 with
  | some (.inl ⟨_, _, _, _, m12_3, _, _, _, _, _⟩) => m12_3
  | _ => default
noncomputable def v72a_0_m12_4 (t21_0 : Int) (t21_1 : Int) (t21_2 : List (List AV)) (t21_3 : Int) (t21_4 : Int) (t21_5 : Int) (t21_6 : Int) (t21_7 : Int) (t21_8 : Int) (t21_9 : Int) (t21_10 : Int) (m1_0 : Int) (m1_1 : Int) (m1_2 : List (List AV)) (m3_0 : Int) (m3_1 : Int) (m3_2 : Int) (m3_3 : Int) (m3_4 : Int) (m3_5 : Int) (m3_6 : Int) (m3_7 : Int) (m4_0 : Int) (m4_1 : Int) (m4_2 : Int) (m4_3 : Int) (m4_4 : Int) (m4_5 : Int) (m4_6 : Int) (m4_7 : Int) (m4_8 : Int) (m7 : Int) (m : List (AV × AV)) (m12_0 : Int) (m12_1 : Int) (m12_2 : Int) (m12_3 : Int) (m12_4 : Int) (m12_5 : Int) (m12_6 : Int) (m12_7 : Int) (m12_8 : Int) (da2 db2 : Int) (cs2 : List (List AV)) (k0 k1 k2 k3 k4 k5 k6 k7 : Int) : Int := match r72a t21_0 t21_1 t21_2 t21_3 t21_4 t21_5 t21_6 t21_7 t21_8 t21_9 t21_10 m1_0 m1_1 m1_2 m3_0 m3_1 m3_2 m3_3 m3_4 m3_5 m3_6 m3_7 m4_0 m4_1 m4_2 m4_3 m4_4 m4_5 m4_6 m4_7 m4_8 m7 m m12_0 m12_1 m12_2 m12_3 m12_4 m12_5 m12_6 m12_7 m12_8 da2 db2 cs2 k0 k1 k2 k3 k4 k5 k6 k7 with
  | some (.inl ⟨_, _, _, _, _, m12_4, _, _, _, _⟩) => m12_4
  | _ => default
noncomputable def v72a_0_m12_5 (t21_0 : Int) (t21_1 : Int) (t21_2 : List (List AV)) (t21_3 : Int) (t21_4 : Int) (t21_5 : Int) (t21_6 : Int) (t21_7 : Int) (t21_8 : Int) (t21_9 : Int) (t21_10 : Int) (m1_0 : Int) (m1_1 : Int) (m1_2 : List (List AV)) (m3_0 : Int) (m3_1 : Int) (m3_2 : Int) (m3_3 : Int) (m3_4 : Int) (m3_5 : Int) (m3_6 : Int) (m3_7 : Int) (m4_0 : Int) (m4_1 : Int) (m4_2 : Int) (m4_3 : Int) (m4_4 : Int) (m4_5 : Int) (m4_6 : Int) (m4_7 : Int) (m4_8 : Int) (m7 : Int) (m : List (AV × AV)) (m12_0 : Int) (m12_1 : Int) (m12_2 : Int) (m12_3 : Int) (m12_4 : Int) (m12_5 : Int) (m12_6 : Int) (m12_7 : Int) (m12_8 : Int) (da2 db2 : Int) (cs2 : List (List AV)) (k0 k1 k2 k3 k4 k5 k6 k7 : Int) : Int := match r72a t21_0 t21_1 t21_2 t21_3 t21_4 t21_5 t21_6 t21_7 t21_8 t21_9 t21_10 m1_0 m1_1 m1_2 m3_0 m3_1 m3_2 m3_3 m3_4 m3_5 m3_6 m3_7 m4_0 m4_1 m4_2 m4_3 m4_4 m4_5 m4_6 m4_7 m4_8 m7 m m12_0 m12_1 m12_2 m12_3 m12_4 m12_5 m12_6 m12_7 m12_8 da2 db2 cs2 k0 k1 k2 k3 k4 k5 k6 k7 with
  | some (.inl ⟨_, _, _, _, _, _, m12_5, _, _, _⟩) => m12_5
  | _ => default
noncomputable def v72a_0_m12_6 (t21_0 : Int) (t21_1 : Int) (t21_2 : List (List AV)) (t21_3 : Int) (t21_4 : Int) (t21_5 : Int) (t21_6 : Int) (t21_7 : Int) (t21_8 : Int) (t21_9 : Int) (t21_10 : Int) (m1_0 : Int) (m1_1 : Int) (m1_2 : List (List AV)) (m3_0 : Int) (m3_1 : Int) (m3_2 : Int) (m3_3 : Int) (m3_4 : Int) (m3_5 : Int) (m3_6 : Int) (m3_7 : Int) (m4_0 : Int) (m4_1 : Int) (m4_2 : Int) (m4_3 : Int) (m4_4 : Int) (m4_5 : Int) (m4_6 : Int) (m4_7 : Int) (m4_8 : Int) (m7 : Int) (m : List (AV × AV)) (m12_0 : Int) (m12_1 : Int) (m12_2 : Int) (m12_3 : Int) (m12_4 : Int) (m12_5 : Int) (m12_6 : Int) (m12_7 : Int) (m12_8 : Int) (da2 db2 : Int) (cs2 : List (List AV)) (k0 k1 k2 k3 k4 k5 k6 k7 : Int) : Int := match r72a t21_0 t21_1 t21_2 t21_3 t21_4 t21_5 t21_6 t21_7 t21_8 t21_9 t21_10 m1_0 m1_1 m1_2 m3_0 m3_1 m3_2 m3_3 m3_4 m3_5 m3_6 m3_7 m4_0 m4_1 m4_2 m4_3 m4_4 m4_5 m4_6 m4_7 m4_8 m7 m m12_0 m12_1 m12_2 m12_3 m12_4 m12_5 m12_6 m12_7 m12_8 da2 db2 cs2 k0 k1 k2 k3 k4 k5 k6 k7 with
  | some (.inl ⟨_, _, _, _, _, _, _, m12_6, _, _⟩) => m12_6
  | _ => default
noncomputable def v72a_0_m12_7 (t21_0 : Int) (t21_1 : Int) (t21_2 : List (List AV)) (t21_3 : Int) (t21_4 : Int) (t21_5 : Int) (t21_6 : Int) (t21_7 : Int) (t21_8 : Int) (t21_9 : Int) (t21_10 : Int) (m1_0 : Int) (m1_1 : Int) (m1_2 : List (List AV)) (m3_0 : Int) (m3_1 : Int) (m3_2 : Int) (m3_3 : Int) (m3_4 : Int) (m3_5 : Int) (m3_6 : Int) (m3_7 : Int) (m4_0 : Int) (m4_1 : Int) (m4_2 : Int) (m4_3 : Int) (m4_4 : Int) (m4_5 : Int) (m4_6 : Int) (m4_7 : Int) (m4_8 : Int) (m7 : Int) (m : List (AV × AV)) (m12_0 : Int) (m12_1 : Int) (m12_2 : Int) (m12_3 : Int) (m12_4 : Int) (m12_5 : Int) (m12_6 : Int) (m12_7 : Int) (m12_8 : Int) (da2 db2 : Int) (cs2 : List (List AV)) (k0 k1 k2 k3 k4 k5 k6 k7 : Int) : Int := match r72a t21_0 t21_1 t21_2 t21_3 t21_4 t21_5 t21_6 t21_7 t21_8 t21_9 t21_10 m1_0 m1_1 m1_2 m3_0 m3_1 m3_2 m3_3 m3_4 m3_5 m3_6 m3_7 m4_0 m4_1 m4_2 m4_3 m4_4 m4_5 m4_6 m4_7 m4_8 m7 m m12_0 m12_1 m12_2 m12_3 m12_4 m12_5 m12_6 m12_7 m12_8 da2 db2 cs2 k0 k1 k2 k3 k4 k5 k6 k7 with
  | some (.inl ⟨_, _, _, _, _, _, _, _, m12_7, _⟩) => m12_7
  | _ => default
noncomputable def v72a_0_m12_8 (t21_0 : Int) (t21_1 : Int) (t21_2 : List (List AV)) (t21_3 : Int) (t21_4 : Int) (t21_5 : Int) (t21_6 : Int) (t21_7 : Int) (t21_8 : Int) (t21_9 : Int) (t21_10 : Int) (m1_0 : Int) (m1_1 : Int) (m1_2 : List (List AV)) (m3_0 : Int) (m3_1 : Int) (m3_2 : Int) (m3_3 : Int) (m3_4 : Int) (m3_5 : Int) (m3_6 : Int) (m3_7 : Int) (m4_0 : Int) (m4_1 : Int) (m4_2 : Int) (m4_3 : Int) (m4_4 : Int) (m4_5 : Int) (m4_6 : Int) (m4_7 : Int) (m4_8 : Int) (m7 : Int) (m : List (AV × AV)) (m12_0 : Int) (m12_1 : Int) (m12_2 : Int) (m12_3 : Int) (m12_4 : Int) (m12_5 : Int) (m12_6 : Int) (m12_7 : Int) (m12_8 : Int) (da2 db2 : Int) (cs2 : List (List AV)) (k0 k1 k2 k3 k4 k5 k6 k7 : Int) : Int := match r72a t21_0 t21_1 t21_2 t21_3 t21_4 t21_5 t21_6 t21_7 t21_8 t21_9 t21_10 m1_0 m1_1 m1_2 m3_0 m3_1 m3_2 m3_3 m3_4 m3_5 m3_6 m3_7 m4_0 m4_1 m4_2 m4_3 m4_4 m4_5 m4_6 m4_7 m4_8 m7 m m12_0 m12_1 m12_2 m12_3 m12_4 m12_5 m12_6 m12_7 m12_8 da2 db2 cs2 k0 k1 k2 k3 k4 k5 k6 k7 with
  | some (.inl ⟨_, _, _, _, _, _, _, _, _, m12_8⟩) => m12_8
  | _ => default
noncomputable def l72a (st : St) : Option (List (Bool × Ex × St)) := match normV Try.prog [(2, none), (3, none), (4, none), (5, none), (6, none), (7, none), (21, none)] 17 st, gt st.t 21 with
  | some ([.p 0 0 0, .p 1 0 0, .p 3 0 0, .p 4 0 0, .p 7 0 0, .p 12 0 0, .fn 88 [.rp [.int .i64, .int .i64, .sl 64] [.i .i64 t21_0, .i .i64 t21_1, .rs 64 t21_2] 0, .rp [.int .i64, .int .i64, .int .i64, .int .i64, .int .i64, .int .i64, .int .i64, .int .i64] [.i .i64 t21_3, .i .i64 t21_4, .i .i64 t21_5, .i .i64 t21_6, .i .i64 t21_7, .i .i64 t21_8, .i .i64 t21_9, .i .i64 t21_10] 0]], [(0, .row 101 [[.mp 2]]), (1, .row 102 [[.fn 72 [.rp [.int .i64, .int .i64, .sl 64] [.i .i64 m1_0, .i .i64 m1_1, .rs 64 m1_2] 0, .p 0 0 0, .p 1 0 0]]]), (2, .mp 104 106 m), (3, .row 104 [[.i .i64 m3_0, .i .i64 m3_1, .i .i64 m3_2, .i .i64 m3_3, .i .i64 m3_4, .i .i64 m3_5, .i .i64 m3_6, .i .i64 m3_7]]), (4, .row 106 [[.i .i64 m4_0, .i .i64 m4_1, .i .i64 m4_2, .i .i64 m4_3, .i .i64 m4_4, .i .i64 m4_5, .i .i64 m4_6, .i .i64 m4_7, .i .i64 m4_8]]), (5, .dead), (6, .dead), (7, .row 3 [[.i .i64 m7]]), (8, .dead), (9, .dead), (10, .dead), (11, .dead), (12, .row 106 [[.i .i64 m12_0, .i .i64 m12_1, .i .i64 m12_2, .i .i64 m12_3, .i .i64 m12_4, .i .i64 m12_5, .i .i64 m12_6, .i .i64 m12_7, .i .i64 m12_8]]), (13, .dead), (14, .dead), (15, .dead), (16, .dead)], 17, 53), .fn 88 [.rp [.int .i64, .int .i64, .sl 64] [.i .i64 da2, .i .i64 db2, .rs 64 cs2] 0, .rp [.int .i64, .int .i64, .int .i64, .int .i64, .int .i64, .int .i64, .int .i64, .int .i64] [.i .i64 k0, .i .i64 k1, .i .i64 k2, .i .i64 k3, .i .i64 k4, .i .i64 k5, .i .i64 k6, .i .i64 k7] 0] => some [(okP da2 db2 cs2 k0 k1 k2 k3 k4 k5 k6 k7 && i72a_0 t21_0 t21_1 t21_2 t21_3 t21_4 t21_5 t21_6 t21_7 t21_8 t21_9 t21_10 m1_0 m1_1 m1_2 m3_0 m3_1 m3_2 m3_3 m3_4 m3_5 m3_6 m3_7 m4_0 m4_1 m4_2 m4_3 m4_4 m4_5 m4_6 m4_7 m4_8 m7 m m12_0 m12_1 m12_2 m12_3 m12_4 m12_5 m12_6 m12_7 m12_8 da2 db2 cs2 k0 k1 k2 k3 k4 k5 k6 k7, .nrm, s72a t21_0 t21_1 t21_2 t21_3 t21_4 t21_5 t21_6 t21_7 t21_8 t21_9 t21_10 m1_0 m1_1 m1_2 (v72a_0_m t21_0 t21_1 t21_2 t21_3 t21_4 t21_5 t21_6 t21_7 t21_8 t21_9 t21_10 m1_0 m1_1 m1_2 m3_0 m3_1 m3_2 m3_3 m3_4 m3_5 m3_6 m3_7 m4_0 m4_1 m4_2 m4_3 m4_4 m4_5 m4_6 m4_7 m4_8 m7 m m12_0 m12_1 m12_2 m12_3 m12_4 m12_5 m12_6 m12_7 m12_8 da2 db2 cs2 k0 k1 k2 k3 k4 k5 k6 k7) m3_0 m3_1 m3_2 m3_3 m3_4 m3_5 m3_6 m3_7 m4_0 m4_1 m4_2 m4_3 m4_4 m4_5 m4_6 m4_7 m4_8 m7 (v72a_0_m12_0 t21_0 t21_1 t21_2 t21_3 t21_4 t21_5 t21_6 t21_7 t21_8 t21_9 t21_10 m1_0 m1_1 m1_2 m3_0 m3_1 m3_2 m3_3 m3_4 m3_5 m3_6 m3_7 m4_0 m4_1 m4_2 m4_3 m4_4 m4_5 m4_6 m4_7 m4_8 m7 m m12_0 m12_1 m12_2 m12_3 m12_4 m12_5 m12_6 m12_7 m12_8 da2 db2 cs2 k0 k1 k2 k3 k4 k5 k6 k7) (v72a_0_m12_1 t21_0 t21_1 t21_2 t21_3 t21_4 t21_5 t21_6 t21_7 t21_8 t21_9 t21_10 m1_0 m1_1 m1_2 m3_0 m3_1 m3_2 m3_3 m3_4 m3_5 m3_6 m3_7 m4_0 m4_1 m4_2 m4_3 m4_4 m4_5 m4_6 m4_7 m4_8 m7 m m12_0 m12_1 m12_2 m12_3 m12_4 m12_5 m12_6 m12_7 m12_8 da2 db2 cs2 k0 k1 k2 k3 k4 k5 k6 k7) (v72a_0_m12_2 t21_0 t21_1 t21_2 t21_3 t21_4 t21_5 t21_6 t21_7 t21_8 t21_9 t21_10 m1_0 m1_1 m1_2 m3_0 m3_1 m3_2 m3_3 m3_4 m3_5 m3_6 m3_7 m4_0 m4_1 m4_2 m4_3 m4_4 m4_5 m4_6 m4_7 m4_8 m7 m m12_0 m12_1 m12_2 m12_3 m12_4 m12_5 m12_6 m12_7 m12_8 da2 db2 cs2 k0 k1 k2 k3 k4 k5 k6 k7) (v72a_0_m12_3 t21_0 t21_1 t21_2 t21_3 t21_4 t21_5 t21_6 t21_7 t21_8 t21_9 t21_10 m1_0 m1_1 m1_2 m3_0 m3_1 m3_2 m3_3 m3_4 m3_5 m3_6 m3_7 m4_0 m4_1 m4_2 m4_3 m4_4 m4_5 m4_6 m4_7 m4_8 m7 m m12_0 m12_1 m12_2 m12_3 m12_4 m12_5 m12_6 m12_7 m12_8 da2 db2 cs2 k0 k1 k2 k3 k4 k5 k6 k7) (v72a_0_m12_4 t21_0 t21_1 t21_2 t21_3 t21_4 t21_5 t21_6 t21_7 t21_8 t21_9 t21_10 m1_0 m1_1 m1_2 m3_0 m3_1 m3_2 m3_3 m3_4 m3_5 m3_6 m3_7 m4_0 m4_1 m4_2 m4_3 m4_4 m4_5 m4_6 m4_7 m4_8 m7 m m12_0 m12_1 m12_2 m12_3 m12_4 m12_5 m12_6 m12_7 m12_8 da2 db2 cs2 k0 k1 k2 k3 k4 k5 k6 k7) (v72a_0_m12_5 t21_0 t21_1 t21_2 t21_3 t21_4 t21_5 t21_6 t21_7 t21_8 t21_9 t21_10 m1_0 m1_1 m1_2 m3_0 m3_1 m3_2 m3_3 m3_4 m3_5 m3_6 m3_7 m4_0 m4_1 m4_2 m4_3 m4_4 m4_5 m4_6 m4_7 m4_8 m7 m m12_0 m12_1 m12_2 m12_3 m12_4 m12_5 m12_6 m12_7 m12_8 da2 db2 cs2 k0 k1 k2 k3 k4 k5 k6 k7) (v72a_0_m12_6 t21_0 t21_1 t21_2 t21_3 t21_4 t21_5 t21_6 t21_7 t21_8 t21_9 t21_10 m1_0 m1_1 m1_2 m3_0 m3_1 m3_2 m3_3 m3_4 m3_5 m3_6 m3_7 m4_0 m4_1 m4_2 m4_3 m4_4 m4_5 m4_6 m4_7 m4_8 m7 m m12_0 m12_1 m12_2 m12_3 m12_4 m12_5 m12_6 m12_7 m12_8 da2 db2 cs2 k0 k1 k2 k3 k4 k5 k6 k7) (v72a_0_m12_7 t21_0 t21_1 t21_2 t21_3 t21_4 t21_5 t21_6 t21_7 t21_8 t21_9 t21_10 m1_0 m1_1 m1_2 m3_0 m3_1 m3_2 m3_3 m3_4 m3_5 m3_6 m3_7 m4_0 m4_1 m4_2 m4_3 m4_4 m4_5 m4_6 m4_7 m4_8 m7 m m12_0 m12_1 m12_2 m12_3 m12_4 m12_5 m12_6 m12_7 m12_8 da2 db2 cs2 k0 k1 k2 k3 k4 k5 k6 k7) (v72a_0_m12_8 t21_0 t21_1 t21_2 t21_3 t21_4 t21_5 t21_6 t21_7 t21_8 t21_9 t21_10 m1_0 m1_1 m1_2 m3_0 m3_1 m3_2 m3_3 m3_4 m3_5 m3_6 m3_7 m4_0 m4_1 m4_2 m4_3 m4_4 m4_5 m4_6 m4_7 m4_8 m7 m m12_0 m12_1 m12_2 m12_3 m12_4 m12_5 m12_6 m12_7 m12_8 da2 db2 cs2 k0 k1 k2 k3 k4 k5 k6 k7))]
  | _, _ => none
noncomputable def L72 : LSpec := fun p st => match p with
  | [false, true, false, true, true, false, true, false, true, false, true, true, true, true] => l72aa st
  | [false, true, false, true, true, true, true] => l72a st
  | _ => none
theorem round72aa (t28_0 : Int) (t28_1 : Int) (t28_2 : Int) (t28_3 : Int) (t28_4 : Int) (t28_5 : Int) (t28_6 : Int) (t28_7 : Int) (t29 : Int) (m1_0 : Int) (m1_1 : Int) (m1_2 : List (List AV)) (m : List (AV × AV)) (m3_0 : Int) (m3_1 : Int) (m3_2 : Int) (m3_3 : Int) (m3_4 : Int) (m3_5 : Int) (m3_6 : Int) (m3_7 : Int) (m4_0 : Int) (m4_1 : Int) (m4_2 : Int) (m4_3 : Int) (m4_4 : Int) (m4_5 : Int) (m4_6 : Int) (m4_7 : Int) (m4_8 : Int) (m7 : Int) (m12_0 : Int) (m12_1 : Int) (m12_2 : Int) (m12_3 : Int) (m12_4 : Int) (m12_5 : Int) (m12_6 : Int) (m12_7 : Int) (m12_8 : Int) (m17_0 : Int) (m17_1 : Int) (m17_2 : Int) (m17_3 : Int) (m17_4 : Int) (m17_5 : Int) (m17_6 : Int) (m17_7 : Int) (m24 : List AV) : round Try.prog SP2 ro72 L72 lp72aa [false, true, false, true, true, false, true, false, true, false, true, true, true, true] [(2, none), (3, none), (5, none), (7, none), (8, none), (9, none), (28, none), (29, none)] 28 (s72aa t28_0 t28_1 t28_2 t28_3 t28_4 t28_5 t28_6 t28_7 t29 m1_0 m1_1 m1_2 m m3_0 m3_1 m3_2 m3_3 m3_4 m3_5 m3_6 m3_7 m4_0 m4_1 m4_2 m4_3 m4_4 m4_5 m4_6 m4_7 m4_8 m7 m12_0 m12_1 m12_2 m12_3 m12_4 m12_5 m12_6 m12_7 m12_8 m17_0 m17_1 m17_2 m17_3 m17_4 m17_5 m17_6 m17_7 m24) =
    cond (decide (t29 < 8)) (cond (intsOf IntKind.i64 [AV.i IntKind.i64 t28_0, AV.i IntKind.i64 t28_1, AV.i IntKind.i64 t28_2, AV.i IntKind.i64 t28_3, AV.i IntKind.i64 t28_4, AV.i IntKind.i64 t28_5, AV.i IntKind.i64 t28_6, AV.i IntKind.i64 t28_7] && (inb t29 8 && inb t29 [AV.i IntKind.i64 t28_0, AV.i IntKind.i64 t28_1, AV.i IntKind.i64 t28_2, AV.i IntKind.i64 t28_3, AV.i IntKind.i64 t28_4, AV.i IntKind.i64 t28_5, AV.i IntKind.i64 t28_6, AV.i IntKind.i64 t28_7].length)) (cond (inb t29 8) (cond (ctsAt (cts Try.prog 104) (0 + t29.toNat * 1) (cts Try.prog 3) && true) (cond (inb t29 8) (cond (ctsAt (cts Try.prog 104) (0 + t29.toNat * 1) (cts Try.prog 3) && true) (some (.nrm, s72aa t28_0 t28_1 t28_2 t28_3 t28_4 t28_5 t28_6 t28_7 (IntKind.i64.wrap (t29 + 1)) m1_0 m1_1 m1_2 m m3_0 m3_1 m3_2 m3_3 m3_4 m3_5 m3_6 m3_7 m4_0 m4_1 m4_2 m4_3 m4_4 m4_5 m4_6 m4_7 m4_8 m7 m12_0 m12_1 m12_2 m12_3 m12_4 m12_5 m12_6 m12_7 m12_8 m17_0 m17_1 m17_2 m17_3 m17_4 m17_5 m17_6 m17_7 (setCs ([m24].getD 0 []) (0 + t29.toNat * 1) [AV.i IntKind.i64 (IntKind.i64.wrap (toI (([m24].getD 0 []).getD (0 + t29.toNat * 1) AV.u) - toI ([AV.i IntKind.i64 t28_0, AV.i IntKind.i64 t28_1, AV.i IntKind.i64 t28_2, AV.i IntKind.i64 t28_3, AV.i IntKind.i64 t28_4, AV.i IntKind.i64 t28_5, AV.i IntKind.i64 t28_6, AV.i IntKind.i64 t28_7].getD t29.toNat AV.u)))]))) (none)) (none)) (none)) (none)) (none)) (some (.ext 2, o72aa_0 t28_0 t28_1 t28_2 t28_3 t28_4 t28_5 t28_6 t28_7 m1_0 m1_1 m1_2 m m3_0 m3_1 m3_2 m3_3 m3_4 m3_5 m3_6 m3_7 m4_0 m4_1 m4_2 m4_3 m4_4 m4_5 m4_6 m4_7 m4_8 m7 m12_0 m12_1 m12_2 m12_3 m12_4 m12_5 m12_6 m12_7 m12_8 m17_0 m17_1 m17_2 m17_3 m17_4 m17_5 m17_6 m17_7 t29 m24)) := by kernel_rfl
theorem rnd72aa (t28_0 : Int) (t28_1 : Int) (t28_2 : Int) (t28_3 : Int) (t28_4 : Int) (t28_5 : Int) (t28_6 : Int) (t28_7 : Int) (m1_0 : Int) (m1_1 : Int) (m1_2 : List (List AV)) (m : List (AV × AV)) (m3_0 : Int) (m3_1 : Int) (m3_2 : Int) (m3_3 : Int) (m3_4 : Int) (m3_5 : Int) (m3_6 : Int) (m3_7 : Int) (m4_0 : Int) (m4_1 : Int) (m4_2 : Int) (m4_3 : Int) (m4_4 : Int) (m4_5 : Int) (m4_6 : Int) (m4_7 : Int) (m4_8 : Int) (m7 : Int) (m12_0 : Int) (m12_1 : Int) (m12_2 : Int) (m12_3 : Int) (m12_4 : Int) (m12_5 : Int) (m12_6 : Int) (m12_7 : Int) (m12_8 : Int) (m17_0 : Int) (m17_1 : Int) (m17_2 : Int) (m17_3 : Int) (m17_4 : Int) (m17_5 : Int) (m17_6 : Int) (m17_7 : Int) (x : S72aa) : round Try.prog SP2 ro72 L72 lp72aa [false, true, false, true, true, false, true, false, true, false, true, true, true, true] [(2, none), (3, none), (5, none), (7, none), (8, none), (9, none), (28, none), (29, none)] 28 ((fun x => s72aa t28_0 t28_1 t28_2 t28_3 t28_4 t28_5 t28_6 t28_7 x.t29 m1_0 m1_1 m1_2 m m3_0 m3_1 m3_2 m3_3 m3_4 m3_5 m3_6 m3_7 m4_0 m4_1 m4_2 m4_3 m4_4 m4_5 m4_6 m4_7 m4_8 m7 m12_0 m12_1 m12_2 m12_3 m12_4 m12_5 m12_6 m12_7 m12_8 m17_0 m17_1 m17_2 m17_3 m17_4 m17_5 m17_6 m17_7 x.m24) x) = toR (fun x => s72aa t28_0 t28_1 t28_2 t28_3 t28_4 t28_5 t28_6 t28_7 x.t29 m1_0 m1_1 m1_2 m m3_0 m3_1 m3_2 m3_3 m3_4 m3_5 m3_6 m3_7 m4_0 m4_1 m4_2 m4_3 m4_4 m4_5 m4_6 m4_7 m4_8 m7 m12_0 m12_1 m12_2 m12_3 m12_4 m12_5 m12_6 m12_7 m12_8 m17_0 m17_1 m17_2 m17_3 m17_4 m17_5 m17_6 m17_7 x.m24) (ou72aa t28_0 t28_1 t28_2 t28_3 t28_4 t28_5 t28_6 t28_7 m1_0 m1_1 m1_2 m m3_0 m3_1 m3_2 m3_3 m3_4 m3_5 m3_6 m3_7 m4_0 m4_1 m4_2 m4_3 m4_4 m4_5 m4_6 m4_7 m4_8 m7 m12_0 m12_1 m12_2 m12_3 m12_4 m12_5 m12_6 m12_7 m12_8 m17_0 m17_1 m17_2 m17_3 m17_4 m17_5 m17_6 m17_7) (stp72aa t28_0 t28_1 t28_2 t28_3 t28_4 t28_5 t28_6 t28_7 m1_0 m1_1 m1_2 m m3_0 m3_1 m3_2 m3_3 m3_4 m3_5 m3_6 m3_7 m4_0 m4_1 m4_2 m4_3 m4_4 m4_5 m4_6 m4_7 m4_8 m7 m12_0 m12_1 m12_2 m12_3 m12_4 m12_5 m12_6 m12_7 m12_8 m17_0 m17_1 m17_2 m17_3 m17_4 m17_5 m17_6 m17_7 x.t29 x.m24) := by
  refine (round72aa _ _ _ _ _ _ _ _ _ _ _ _ _ _ _ _ _ _ _ _ _ _ _ _ _ _ _ _ _ _ _ _ _ _ _ _ _ _ _ _ _ _ _ _ _ _ _ _ _ ).trans ?_
  unfold stp72aa
  simp only [toR_cond]
  rfl
theorem lok72aa {st : St} {outs : List (Bool × Ex × St)} {e : Ex} {s : St} {lo : Nat} (hlo : lo ≤ st.nx) (hl : l72aa st = some outs) (hch : Chosen outs e s) :
    ∃ keep nb, lo ≤ nb ∧ LB Try.prog SP2 ro72 L72 lp72aa [false, true, false, true, true, false, true, false, true, false, true, true, true, true] keep nb st e s := by
  unfold l72aa at hl
  split at hl
  · rename_i t28_0 t28_1 t28_2 t28_3 t28_4 t28_5 t28_6 t28_7 t29 m1_0 m1_1 m1_2 m m3_0 m3_1 m3_2 m3_3 m3_4 m3_5 m3_6 m3_7 m4_0 m4_1 m4_2 m4_3 m4_4 m4_5 m4_6 m4_7 m4_8 m7 m12_0 m12_1 m12_2 m12_3 m12_4 m12_5 m12_6 m12_7 m12_8 m17_0 m17_1 m17_2 m17_3 m17_4 m17_5 m17_6 m17_7 m24 hno
    cases hl
    obtain ⟨hnx, hno⟩ := normV_norm hno
    refine ⟨_, _, ?_, .enter hno ?_⟩
    · exact hnx ▸ hlo
    have main := fun y h => LB_run (x := (⟨t29, m24⟩ : S72aa)) (y := y) (nb := 28) (fun y => by cases y <;> simp [ou72aa]) (rnd72aa t28_0 t28_1 t28_2 t28_3 t28_4 t28_5 t28_6 t28_7 m1_0 m1_1 m1_2 m m3_0 m3_1 m3_2 m3_3 m3_4 m3_5 m3_6 m3_7 m4_0 m4_1 m4_2 m4_3 m4_4 m4_5 m4_6 m4_7 m4_8 m7 m12_0 m12_1 m12_2 m12_3 m12_4 m12_5 m12_6 m12_7 m12_8 m17_0 m17_1 m17_2 m17_3 m17_4 m17_5 m17_6 m17_7) h
    obtain ⟨x, hx, hg, rfl, rfl⟩ := chosen_any hch
    simp only [List.mem_cons, List.not_mem_nil, or_false] at hx
    subst hx
    exact main _ (is72aa_0 t28_0 t28_1 t28_2 t28_3 t28_4 t28_5 t28_6 t28_7 m1_0 m1_1 m1_2 m m3_0 m3_1 m3_2 m3_3 m3_4 m3_5 m3_6 m3_7 m4_0 m4_1 m4_2 m4_3 m4_4 m4_5 m4_6 m4_7 m4_8 m7 m12_0 m12_1 m12_2 m12_3 m12_4 m12_5 m12_6 m12_7 m12_8 m17_0 m17_1 m17_2 m17_3 m17_4 m17_5 m17_6 m17_7 t29 m24 hg)
  · cases hl
theorem is72a_0 (t21_0 : Int) (t21_1 : Int) (t21_2 : List (List AV)) (t21_3 : Int) (t21_4 : Int) (t21_5 : Int) (t21_6 : Int) (t21_7 : Int) (t21_8 : Int) (t21_9 : Int) (t21_10 : Int) (m1_0 : Int) (m1_1 : Int) (m1_2 : List (List AV)) (m3_0 : Int) (m3_1 : Int) (m3_2 : Int) (m3_3 : Int) (m3_4 : Int) (m3_5 : Int) (m3_6 : Int) (m3_7 : Int) (m4_0 : Int) (m4_1 : Int) (m4_2 : Int) (m4_3 : Int) (m4_4 : Int) (m4_5 : Int) (m4_6 : Int) (m4_7 : Int) (m4_8 : Int) (m7 : Int) (m : List (AV × AV)) (m12_0 : Int) (m12_1 : Int) (m12_2 : Int) (m12_3 : Int) (m12_4 : Int) (m12_5 : Int) (m12_6 : Int) (m12_7 : Int) (m12_8 : Int) (da2 db2 : Int) (cs2 : List (List AV)) (k0 k1 k2 k3 k4 k5 k6 k7 : Int) (h : i72a_0 t21_0 t21_1 t21_2 t21_3 t21_4 t21_5 t21_6 t21_7 t21_8 t21_9 t21_10 m1_0 m1_1 m1_2 m3_0 m3_1 m3_2 m3_3 m3_4 m3_5 m3_6 m3_7 m4_0 m4_1 m4_2 m4_3 m4_4 m4_5 m4_6 m4_7 m4_8 m7 m m12_0 m12_1 m12_2 m12_3 m12_4 m12_5 m12_6 m12_7 m12_8 da2 db2 cs2 k0 k1 k2 k3 k4 k5 k6 k7 = true) : r72a t21_0 t21_1 t21_2 t21_3 t21_4 t21_5 t21_6 t21_7 t21_8 t21_9 t21_10 m1_0 m1_1 m1_2 m3_0 m3_1 m3_2 m3_3 m3_4 m3_5 m3_6 m3_7 m4_0 m4_1 m4_2 m4_3 m4_4 m4_5 m4_6 m4_7 m4_8 m7 m m12_0 m12_1 m12_2 m12_3 m12_4 m12_5 m12_6 m12_7 m12_8 da2 db2 cs2 k0 k1 k2 k3 k4 k5 k6 k7 = some (.inl ⟨(v72a_0_m t21_0 t21_1 t21_2 t21_3 t21_4 t21_5 t21_6 t21_7 t21_8 t21_9 t21_10 m1_0 m1_1 m1_2 m3_0 m3_1 m3_2 m3_3 m3_4 m3_5 m3_6 m3_7 m4_0 m4_1 m4_2 m4_3 m4_4 m4_5 m4_6 m4_7 m4_8 m7 m m12_0 m12_1 m12_2 m12_3 m12_4 m12_5 m12_6 m12_7 m12_8 da2 db2 cs2 k0 k1 k2 k3 k4 k5 k6 k7), (v72a_0_m12_0 t21_0 t21_1 t21_2 t21_3 t21_4 t21_5 t21_6 t21_7 t21_8 t21_9 t21_10 m1_0 m1_1 m1_2 m3_0 m3_1 m3_2 m3_3 m3_4 m3_5 m3_6 m3_7 m4_0 m4_1 m4_2 m4_3 m4_4 m4_5 m4_6 m4_7 m4_8 m7 m m12_0 m12_1 m12_2 m12_3 m12_4 m12_5 m12_6 m12_7 m12_8 da2 db2 cs2 k0 k1 k2 k3 k4 k5 k6 k7), (v72a_0_m12_1 t21_0 t21_1 t21_2 t21_3 t21_4 t21_5 t21_6 t21_7 t21_8 t21_9 t21_10 m1_0 m1_1 m1_2 m3_0 m3_1 m3_2 m3_3 m3_4 m3_5 m3_6 m3_7 m4_0 m4_1 m4_2 m4_3 m4_4 m4_5 m4_6 m4_7 m4_8 m7 m m12_0 m12_1 m12_2 m12_3 m12_4 m12_5 m12_6 m12_7 m12_8 da2 db2 cs2 k0 k1 k2 k3 k4 k5 k6 k7), (v72a_0_m12_2 t21_0 t21_1 t21_2 t21_3 t21_4 t21_5 t21_6 t21_7 t21_8 t21_9 t21_10 m1_0 m1_1 m1_2 m3_0 m3_1 m3_2 m3_3 m3_4 m3_5 m3_6 m3_7 m4_0 m4_1 m4_2 m4_3 m4_4 m4_5 m4_6 m4_7 m4_8 m7 m m12_0 m12_1 m12_2 m12_3 m12_4 m12_5 m12_6 m12_7 m12_8 da2 db2 cs2 k0 k1 k2 k3 k4 k5 k6 k7), (v72a_0_m12_3 t21_0 t21_1 t21_2 t21_3 t21_4 t21_5 t21_6 t21_7 t21_8 t21_9 t21_10 m1_0 m1_1 m1_2 m3_0 m3_1 m3_2 m3_3 m3_4 m3_5 m3_6 m3_7 m4_0 m4_1 m4_2 m4_3 m4_4 m4_5 m4_6 m4_7 m4_8 m7 m m12_0 m12_1 m12_2 m12_3 m12_4 m12_5 m12_6 m12_7 m12_8 da2 db2 cs2 k0 k1 k2 k3 k4 k5 k6 k7), (v72a_0_m12_4 t21_0 t21_1 t21_2 t21_3 t21_4 t21_5 t21_6 t21_7 t21_8 t21_9 t21_10 m1_0 m1_1 m1_2 m3_0 m3_1 m3_2 m3_3 m3_4 m3_5 m3_6 m3_7 m4_0 m4_1 m4_2 m4_3 m4_4 m4_5 m4_6 m4_7 m4_8 m7 m m12_0 m12_1 m12_2 m12_3 m12_4 m12_5 m12_6 m12_7 m12_8 da2 db2 cs2 k0 k1 k2 k3 k4 k5 k6 k7), (v72a_0_m12_5 t21_0 t21_1 t21_2 t21_3 t21_4 t21_5 t21_6 t21_7 t21_8 t21_9 t21_10 m1_0 m1_1 m1_2 m3_0 m3_1 m3_2 m3_3 m3_4 m3_5 m3_6 m3_7 m4_0 m4_1 m4_2 m4_3 m4_4 m4_5 m4_6 m4_7 m4_8 m7 m m12_0 m12_1 m12_2 m12_3 m12_4 m12_5 m12_6 m12_7 m12_8 da2 db2 cs2 k0 k1 k2 k3 k4 k5 k6 k7), (v72a_0_m12_6 t21_0 t21_1 t21_2 t21_3 t21_4 t21_5 t21_6 t21_7 t21_8 t21_9 t21_10 m1_0 m1_1 m1_2 m3_0 m3_1 m3_2 m3_3 m3_4 m3_5 m3_6 m3_7 m4_0 m4_1 m4_2 m4_3 m4_4 m4_5 m4_6 m4_7 m4_8 m7 m m12_0 m12_1 m12_2 m12_3 m12_4 m12_5 m12_6 m12_7 m12_8 da2 db2 cs2 k0 k1 k2 k3 k4 k5 k6 k7), (v72a_0_m12_7 t21_0 t21_1 t21_2 t21_3 t21_4 t21_5 t21_6 t21_7 t21_8 t21_9 t21_10 m1_0 m1_1 m1_2 m3_0 m3_1 m3_2 m3_3 m3_4 m3_5 m3_6 m3_7 m4_0 m4_1 m4_2 m4_3 m4_4 m4_5 m4_6 m4_7 m4_8 m7 m m12_0 m12_1 m12_2 m12_3 m12_4 m12_5 m12_6 m12_7 m12_8 da2 db2 cs2 k0 k1 k2 k3 k4 k5 k6 k7), (v72a_0_m12_8 t21_0 t21_1 t21_2 t21_3 t21_4 t21_5 t21_6 t21_7 t21_8 t21_9 t21_10 m1_0 m1_1 m1_2 m3_0 m3_1 m3_2 m3_3 m3_4 m3_5 m3_6 m3_7 m4_0 m4_1 m4_2 m4_3 m4_4 m4_5 m4_6 m4_7 m4_8 m7 m m12_0 m12_1 m12_2 m12_3 m12_4 m12_5 m12_6 m12_7 m12_8 da2 db2 cs2 k0 k1 k2 k3 k4 k5 k6 k7)⟩) := by
  unfold i72a_0 at h
  unfold v72a_0_m v72a_0_m12_0 v72a_0_m12_1 v72a_0_m12_2 v72a_0_m12_3 v72a_0_m12_4 v72a_0_m12_5 v72a_0_m12_6 v72a_0_m12_7 v72a_0_m12_8
  generalize r72a t21_0 t21_1 t21_2 t21_3 t21_4 t21_5 t21_6 t21_7 t21_8 t21_9 t21_10 m1_0 m1_1 m1_2 m3_0 m3_1 m3_2 m3_3 m3_4 m3_5 m3_6 m3_7 m4_0 m4_1 m4_2 m4_3 m4_4 m4_5 m4_6 m4_7 m4_8 m7 m m12_0 m12_1 m12_2 m12_3 m12_4 m12_5 m12_6 m12_7 m12_8 da2 db2 cs2 k0 k1 k2 k3 k4 k5 k6 k7 = r at h ⊢
  rcases r with _ | y
  · cases h
  · rcases y with y | y <;> first | rfl | (cases h; done) | (cases y <;> first | rfl | cases h)
theorem round72a (t21_0 : Int) (t21_1 : Int) (t21_2 : List (List AV)) (t21_3 : Int) (t21_4 : Int) (t21_5 : Int) (t21_6 : Int) (t21_7 : Int) (t21_8 : Int) (t21_9 : Int) (t21_10 : Int) (m1_0 : Int) (m1_1 : Int) (m1_2 : List (List AV)) (m : List (AV × AV)) (m3_0 : Int) (m3_1 : Int) (m3_2 : Int) (m3_3 : Int) (m3_4 : Int) (m3_5 : Int) (m3_6 : Int) (m3_7 : Int) (m4_0 : Int) (m4_1 : Int) (m4_2 : Int) (m4_3 : Int) (m4_4 : Int) (m4_5 : Int) (m4_6 : Int) (m4_7 : Int) (m4_8 : Int) (m7 : Int) (m12_0 : Int) (m12_1 : Int) (m12_2 : Int) (m12_3 : Int) (m12_4 : Int) (m12_5 : Int) (m12_6 : Int) (m12_7 : Int) (m12_8 : Int) (it : List AV) : roundF Try.prog SP2 ro72 L72 [22] as72a bd72a [false, true, false, true, true, true, true] 17 (s72a t21_0 t21_1 t21_2 t21_3 t21_4 t21_5 t21_6 t21_7 t21_8 t21_9 t21_10 m1_0 m1_1 m1_2 m m3_0 m3_1 m3_2 m3_3 m3_4 m3_5 m3_6 m3_7 m4_0 m4_1 m4_2 m4_3 m4_4 m4_5 m4_6 m4_7 m4_8 m7 m12_0 m12_1 m12_2 m12_3 m12_4 m12_5 m12_6 m12_7 m12_8) (enc8 it) =
    cond (inb m7 8) (cond (ctsAt (cts Try.prog 104) (0 + m7.toNat * 1) (cts Try.prog 3) && true) (cond (toI ((([[AV.i IntKind.i64 0, AV.i IntKind.i64 0, AV.i IntKind.i64 0, AV.i IntKind.i64 0, AV.i IntKind.i64 0, AV.i IntKind.i64 0, AV.i IntKind.i64 0, AV.i IntKind.i64 0]].set 0 (setCs ([[AV.i IntKind.i64 0, AV.i IntKind.i64 0, AV.i IntKind.i64 0, AV.i IntKind.i64 0, AV.i IntKind.i64 0, AV.i IntKind.i64 0, AV.i IntKind.i64 0, AV.i IntKind.i64 0]].getD 0 []) 0 [AV.i IntKind.i64 (fI it 0), AV.i IntKind.i64 (fI it 1), AV.i IntKind.i64 (fI it 2), AV.i IntKind.i64 (fI it 3), AV.i IntKind.i64 (fI it 4), AV.i IntKind.i64 (fI it 5), AV.i IntKind.i64 (fI it 6), AV.i IntKind.i64 (fI it 7)])).getD 0 []).getD (0 + m7.toNat * 1) AV.u) == 0) (some (.nrm, s72a t21_0 t21_1 t21_2 t21_3 t21_4 t21_5 t21_6 t21_7 t21_8 t21_9 t21_10 m1_0 m1_1 m1_2 m m3_0 m3_1 m3_2 m3_3 m3_4 m3_5 m3_6 m3_7 m4_0 m4_1 m4_2 m4_3 m4_4 m4_5 m4_6 m4_7 m4_8 m7 m12_0 m12_1 m12_2 m12_3 m12_4 m12_5 m12_6 m12_7 m12_8)) (cond (i72aa_0 (fI it 0) (fI it 1) (fI it 2) (fI it 3) (fI it 4) (fI it 5) (fI it 6) (fI it 7) m1_0 m1_1 m1_2 m m3_0 m3_1 m3_2 m3_3 m3_4 m3_5 m3_6 m3_7 m4_0 m4_1 m4_2 m4_3 m4_4 m4_5 m4_6 m4_7 m4_8 m7 m12_0 m12_1 m12_2 m12_3 m12_4 m12_5 m12_6 m12_7 m12_8 (fI it 0) (fI it 1) (fI it 2) (fI it 3) (fI it 4) (fI it 5) (fI it 6) (fI it 7) 0 (setCs ([[AV.i IntKind.i64 0, AV.i IntKind.i64 0, AV.i IntKind.i64 0, AV.i IntKind.i64 0, AV.i IntKind.i64 0, AV.i IntKind.i64 0, AV.i IntKind.i64 0, AV.i IntKind.i64 0]].getD 0 []) 0 [AV.i IntKind.i64 m3_0, AV.i IntKind.i64 m3_1, AV.i IntKind.i64 m3_2, AV.i IntKind.i64 m3_3, AV.i IntKind.i64 m3_4, AV.i IntKind.i64 m3_5, AV.i IntKind.i64 m3_6, AV.i IntKind.i64 m3_7])) (cond (G72 m1_0 m1_1 m1_2 m m3_0 m3_1 m3_2 m3_3 m3_4 m3_5 m3_6 m3_7 m4_0 m4_1 m4_2 m4_3 m4_4 m4_5 m4_6 m4_7 m4_8 m7 m12_0 m12_1 m12_2 m12_3 m12_4 m12_5 m12_6 m12_7 m12_8 it && true) (cond (decide (IntKind.i64.wrap (1 + (F72 m1_0 m1_1 m1_2 m m3_0 m3_1 m3_2 m3_3 m3_4 m3_5 m3_6 m3_7 m4_0 m4_1 m4_2 m4_3 m4_4 m4_5 m4_6 m4_7 m4_8 m7 m12_0 m12_1 m12_2 m12_3 m12_4 m12_5 m12_6 m12_7 m12_8 it).fst 8) < m12_8)) (some (.nrm, s72a t21_0 t21_1 t21_2 t21_3 t21_4 t21_5 t21_6 t21_7 t21_8 t21_9 t21_10 m1_0 m1_1 m1_2 ((F72 m1_0 m1_1 m1_2 m m3_0 m3_1 m3_2 m3_3 m3_4 m3_5 m3_6 m3_7 m4_0 m4_1 m4_2 m4_3 m4_4 m4_5 m4_6 m4_7 m4_8 m7 m12_0 m12_1 m12_2 m12_3 m12_4 m12_5 m12_6 m12_7 m12_8 it).snd) m3_0 m3_1 m3_2 m3_3 m3_4 m3_5 m3_6 m3_7 m4_0 m4_1 m4_2 m4_3 m4_4 m4_5 m4_6 m4_7 m4_8 m7 (fI it 0) (fI it 1) (fI it 2) (fI it 3) (fI it 4) (fI it 5) (fI it 6) (fI it 7) (IntKind.i64.wrap (1 + (F72 m1_0 m1_1 m1_2 m m3_0 m3_1 m3_2 m3_3 m3_4 m3_5 m3_6 m3_7 m4_0 m4_1 m4_2 m4_3 m4_4 m4_5 m4_6 m4_7 m4_8 m7 m12_0 m12_1 m12_2 m12_3 m12_4 m12_5 m12_6 m12_7 m12_8 it).fst 8)))) (some (.nrm, s72a t21_0 t21_1 t21_2 t21_3 t21_4 t21_5 t21_6 t21_7 t21_8 t21_9 t21_10 m1_0 m1_1 m1_2 ((F72 m1_0 m1_1 m1_2 m m3_0 m3_1 m3_2 m3_3 m3_4 m3_5 m3_6 m3_7 m4_0 m4_1 m4_2 m4_3 m4_4 m4_5 m4_6 m4_7 m4_8 m7 m12_0 m12_1 m12_2 m12_3 m12_4 m12_5 m12_6 m12_7 m12_8 it).snd) m3_0 m3_1 m3_2 m3_3 m3_4 m3_5 m3_6 m3_7 m4_0 m4_1 m4_2 m4_3 m4_4 m4_5 m4_6 m4_7 m4_8 m7 m12_0 m12_1 m12_2 m12_3 m12_4 m12_5 m12_6 m12_7 m12_8))) (none)) (none))) (none)) (none) := by kernel_rfl
theorem rnd72a (t21_0 : Int) (t21_1 : Int) (t21_2 : List (List AV)) (t21_3 : Int) (t21_4 : Int) (t21_5 : Int) (t21_6 : Int) (t21_7 : Int) (t21_8 : Int) (t21_9 : Int) (t21_10 : Int) (m1_0 : Int) (m1_1 : Int) (m1_2 : List (List AV)) (m3_0 : Int) (m3_1 : Int) (m3_2 : Int) (m3_3 : Int) (m3_4 : Int) (m3_5 : Int) (m3_6 : Int) (m3_7 : Int) (m4_0 : Int) (m4_1 : Int) (m4_2 : Int) (m4_3 : Int) (m4_4 : Int) (m4_5 : Int) (m4_6 : Int) (m4_7 : Int) (m4_8 : Int) (m7 : Int) (x : S72a) (it : List AV) : roundF Try.prog SP2 ro72 L72 [22] as72a bd72a [false, true, false, true, true, true, true] 17 ((fun x => s72a t21_0 t21_1 t21_2 t21_3 t21_4 t21_5 t21_6 t21_7 t21_8 t21_9 t21_10 m1_0 m1_1 m1_2 x.m m3_0 m3_1 m3_2 m3_3 m3_4 m3_5 m3_6 m3_7 m4_0 m4_1 m4_2 m4_3 m4_4 m4_5 m4_6 m4_7 m4_8 m7 x.m12_0 x.m12_1 x.m12_2 x.m12_3 x.m12_4 x.m12_5 x.m12_6 x.m12_7 x.m12_8) x) (enc8 it) = toR (fun x => s72a t21_0 t21_1 t21_2 t21_3 t21_4 t21_5 t21_6 t21_7 t21_8 t21_9 t21_10 m1_0 m1_1 m1_2 x.m m3_0 m3_1 m3_2 m3_3 m3_4 m3_5 m3_6 m3_7 m4_0 m4_1 m4_2 m4_3 m4_4 m4_5 m4_6 m4_7 m4_8 m7 x.m12_0 x.m12_1 x.m12_2 x.m12_3 x.m12_4 x.m12_5 x.m12_6 x.m12_7 x.m12_8) (ou72a t21_0 t21_1 t21_2 t21_3 t21_4 t21_5 t21_6 t21_7 t21_8 t21_9 t21_10 m1_0 m1_1 m1_2 m3_0 m3_1 m3_2 m3_3 m3_4 m3_5 m3_6 m3_7 m4_0 m4_1 m4_2 m4_3 m4_4 m4_5 m4_6 m4_7 m4_8 m7) (stp72a t21_0 t21_1 t21_2 t21_3 t21_4 t21_5 t21_6 t21_7 t21_8 t21_9 t21_10 m1_0 m1_1 m1_2 m3_0 m3_1 m3_2 m3_3 m3_4 m3_5 m3_6 m3_7 m4_0 m4_1 m4_2 m4_3 m4_4 m4_5 m4_6 m4_7 m4_8 m7 x.m x.m12_0 x.m12_1 x.m12_2 x.m12_3 x.m12_4 x.m12_5 x.m12_6 x.m12_7 x.m12_8 it) := by
  refine (round72a _ _ _ _ _ _ _ _ _ _ _ _ _ _ _ _ _ _ _ _ _ _ _ _ _ _ _ _ _ _ _ _ _ _ _ _ _ _ _ _ _ _ _ ).trans ?_
  unfold stp72a
  simp only [toR_cond]
  rfl
theorem lok72a {st : St} {outs : List (Bool × Ex × St)} {e : Ex} {s : St} {lo : Nat} (hlo : lo ≤ st.nx) (hl : l72a st = some outs) (hch : Chosen outs e s) :
    ∃ keep nb, lo ≤ nb ∧ RB Try.prog SP2 ro72 L72 (.tmp 21) [22] as72a bd72a [false, true, false, true, true, true, true] keep nb st e s := by
  unfold l72a at hl
  split at hl
  · rename_i t21_0 t21_1 t21_2 t21_3 t21_4 t21_5 t21_6 t21_7 t21_8 t21_9 t21_10 m1_0 m1_1 m1_2 m m3_0 m3_1 m3_2 m3_3 m3_4 m3_5 m3_6 m3_7 m4_0 m4_1 m4_2 m4_3 m4_4 m4_5 m4_6 m4_7 m4_8 m7 m12_0 m12_1 m12_2 m12_3 m12_4 m12_5 m12_6 m12_7 m12_8 da2 db2 cs2 k0 k1 k2 k3 k4 k5 k6 k7 hno hgf
    cases hl
    obtain ⟨hnx, hno⟩ := normV_norm hno
    obtain ⟨x, hx, hg, rfl, rfl⟩ := chosen_any hch
    simp only [List.mem_cons, List.not_mem_nil, or_false] at hx
    subst hx
    have hgg := (Bool.and_eq_true_iff.1 hg).1
    have main := fun y h => rounds_iter (x := (⟨m, m12_0, m12_1, m12_2, m12_3, m12_4, m12_5, m12_6, m12_7, m12_8⟩ : S72a)) (y := y) (nb := 17) (fun y => by cases y <;> simp [ou72a]) (rnd72a t21_0 t21_1 t21_2 t21_3 t21_4 t21_5 t21_6 t21_7 t21_8 t21_9 t21_10 m1_0 m1_1 m1_2 m3_0 m3_1 m3_2 m3_3 m3_4 m3_5 m3_6 m3_7 m4_0 m4_1 m4_2 m4_3 m4_4 m4_5 m4_6 m4_7 m4_8 m7) (xs := patX da2 db2 cs2 k0 k1 k2 k3 k4 k5 k6 k7) h
    refine ⟨_, _, hnx ▸ hlo, _, _, (patX da2 db2 cs2 k0 k1 k2 k3 k4 k5 k6 k7).map enc8, _, hgf, by kernel_rfl, patX_con hgg, fun x hx => enc8_len hx, fun q hq => ?_, hno, rfl, ?_⟩
    · have hn := norm_nt hno
      simp only [List.mem_cons, List.not_mem_nil, or_false] at hq
      subst hq
      rw [← hn]
      exact Nat.le_of_ble_eq_true rfl
    rw [show liveOnly Try.prog { t := (([(2, none), (3, none), (4, none), (5, none), (6, none), (7, none), (21, none)] : List (Nat × Option TypeId)).map Prod.fst).zip [.p 0 0 0, .p 1 0 0, .p 3 0 0, .p 4 0 0, .p 7 0 0, .p 12 0 0, .fn 88 [.rp [.int .i64, .int .i64, .sl 64] [.i .i64 t21_0, .i .i64 t21_1, .rs 64 t21_2] 0, .rp [.int .i64, .int .i64, .int .i64, .int .i64, .int .i64, .int .i64, .int .i64, .int .i64] [.i .i64 t21_3, .i .i64 t21_4, .i .i64 t21_5, .i .i64 t21_6, .i .i64 t21_7, .i .i64 t21_8, .i .i64 t21_9, .i .i64 t21_10] 0]], m := [(0, .row 101 [[.mp 2]]), (1, .row 102 [[.fn 72 [.rp [.int .i64, .int .i64, .sl 64] [.i .i64 m1_0, .i .i64 m1_1, .rs 64 m1_2] 0, .p 0 0 0, .p 1 0 0]]]), (2, .mp 104 106 m), (3, .row 104 [[.i .i64 m3_0, .i .i64 m3_1, .i .i64 m3_2, .i .i64 m3_3, .i .i64 m3_4, .i .i64 m3_5, .i .i64 m3_6, .i .i64 m3_7]]), (4, .row 106 [[.i .i64 m4_0, .i .i64 m4_1, .i .i64 m4_2, .i .i64 m4_3, .i .i64 m4_4, .i .i64 m4_5, .i .i64 m4_6, .i .i64 m4_7, .i .i64 m4_8]]), (5, .dead), (6, .dead), (7, .row 3 [[.i .i64 m7]]), (8, .dead), (9, .dead), (10, .dead), (11, .dead), (12, .row 106 [[.i .i64 m12_0, .i .i64 m12_1, .i .i64 m12_2, .i .i64 m12_3, .i .i64 m12_4, .i .i64 m12_5, .i .i64 m12_6, .i .i64 m12_7, .i .i64 m12_8]]), (13, .dead), (14, .dead), (15, .dead), (16, .dead)], nx := 17, nt := 53 } = s72a t21_0 t21_1 t21_2 t21_3 t21_4 t21_5 t21_6 t21_7 t21_8 t21_9 t21_10 m1_0 m1_1 m1_2 m m3_0 m3_1 m3_2 m3_3 m3_4 m3_5 m3_6 m3_7 m4_0 m4_1 m4_2 m4_3 m4_4 m4_5 m4_6 m4_7 m4_8 m7 m12_0 m12_1 m12_2 m12_3 m12_4 m12_5 m12_6 m12_7 m12_8 from by kernel_rfl]
    exact main _ (is72a_0 t21_0 t21_1 t21_2 t21_3 t21_4 t21_5 t21_6 t21_7 t21_8 t21_9 t21_10 m1_0 m1_1 m1_2 m3_0 m3_1 m3_2 m3_3 m3_4 m3_5 m3_6 m3_7 m4_0 m4_1 m4_2 m4_3 m4_4 m4_5 m4_6 m4_7 m4_8 m7 m m12_0 m12_1 m12_2 m12_3 m12_4 m12_5 m12_6 m12_7 m12_8 da2 db2 cs2 k0 k1 k2 k3 k4 k5 k6 k7 (Bool.and_eq_true_iff.1 hg).2)
  · cases hl
theorem L72_ok (q : Pl) (c : Code) (hq : locate c72 q.reverse = some (.loop c)) (lo : Nat) (st : St) (outs : List (Bool × Ex × St)) (e : Ex) (s : St) (hlo : lo ≤ st.nx) (hl : L72 q st = some outs) (hch : Chosen outs e s) :
    ∃ keep nb, lo ≤ nb ∧ LB Try.prog SP2 ro72 L72 c q keep nb st e s := by
  unfold L72 at hl
  split at hl
  · have : locate c72 ([false, true, false, true, true, false, true, false, true, false, true, true, true, true] : Pl).reverse = some (.loop lp72aa) := by kernel_rfl
    rw [this] at hq
    cases hq
    exact lok72aa hlo hl hch
  · have : locate c72 ([false, true, false, true, true, true, true] : Pl).reverse = some (.rangeFunc (.tmp 21) #[22] as72a bd72a) := by kernel_rfl
    rw [this] at hq
    cases hq
  · cases hl
theorem L72_okR (q : Pl) (g : Operand) (ps : Array Nat) (a b : Code) (hq : locate c72 q.reverse = some (.rangeFunc g ps a b)) (lo : Nat) (st : St) (outs : List (Bool × Ex × St)) (e : Ex) (s : St) (hlo : lo ≤ st.nx) (hl : L72 q st = some outs) (hch : Chosen outs e s) :
    ∃ keep nb, lo ≤ nb ∧ RB Try.prog SP2 ro72 L72 g ps.toList a b q keep nb st e s := by
  unfold L72 at hl
  split at hl
  · have : locate c72 ([false, true, false, true, true, false, true, false, true, false, true, true, true, true] : Pl).reverse = some (.loop lp72aa) := by kernel_rfl
    rw [this] at hq
    cases hq
  · have : locate c72 ([false, true, false, true, true, true, true] : Pl).reverse = some (.rangeFunc (.tmp 21) #[22] as72a bd72a) := by kernel_rfl
    rw [this] at hq
    cases hq
    exact lok72a hlo hl hch
  · cases hl
theorem lok72 : LOK Try.prog SP2 ro72 L72 3 false c72 [] :=
  lok_gen L72_ok L72_okR c72 [] 3 false (locate_nil _) (by kernel_rfl)
noncomputable def t72 (da db : Int) (cs : List (List AV)) (da' db' : Int) (cs' : List (List AV)) (q0 q1 q2 q3 q4 q5 q6 q7 : Int) (m : List (AV × AV)) : Tr ((Int) × (Int) × (Int) × (Int) × (Int) × (Int) × (Int) × (Int) × (Int) × (Int) × (Int) × (List (List AV)) × (List (AV × AV))) :=
  .cn (g73q q0 q1 q2 q3 q4 q5 q6 q7 && true) (.cn (decide (w73q_0 q0 q1 q2 q3 q4 q5 q6 q7 < 0)) (.lf (0, 0, 0, 0, 0, 0, 0, 0, 0, da', db', cs', m)) (.cn (okP da db cs (w73q_1 q0 q1 q2 q3 q4 q5 q6 q7) (w73q_2 q0 q1 q2 q3 q4 q5 q6 q7) (w73q_3 q0 q1 q2 q3 q4 q5 q6 q7) (w73q_4 q0 q1 q2 q3 q4 q5 q6 q7) (w73q_5 q0 q1 q2 q3 q4 q5 q6 q7) (w73q_6 q0 q1 q2 q3 q4 q5 q6 q7) (w73q_7 q0 q1 q2 q3 q4 q5 q6 q7) (w73q_8 q0 q1 q2 q3 q4 q5 q6 q7) && i72a_0 da db cs (w73q_1 q0 q1 q2 q3 q4 q5 q6 q7) (w73q_2 q0 q1 q2 q3 q4 q5 q6 q7) (w73q_3 q0 q1 q2 q3 q4 q5 q6 q7) (w73q_4 q0 q1 q2 q3 q4 q5 q6 q7) (w73q_5 q0 q1 q2 q3 q4 q5 q6 q7) (w73q_6 q0 q1 q2 q3 q4 q5 q6 q7) (w73q_7 q0 q1 q2 q3 q4 q5 q6 q7) (w73q_8 q0 q1 q2 q3 q4 q5 q6 q7) da' db' cs' (w73q_1 q0 q1 q2 q3 q4 q5 q6 q7) (w73q_2 q0 q1 q2 q3 q4 q5 q6 q7) (w73q_3 q0 q1 q2 q3 q4 q5 q6 q7) (w73q_4 q0 q1 q2 q3 q4 q5 q6 q7) (w73q_5 q0 q1 q2 q3 q4 q5 q6 q7) (w73q_6 q0 q1 q2 q3 q4 q5 q6 q7) (w73q_7 q0 q1 q2 q3 q4 q5 q6 q7) (w73q_8 q0 q1 q2 q3 q4 q5 q6 q7) 0 0 0 0 0 0 0 0 0 (w73q_0 q0 q1 q2 q3 q4 q5 q6 q7) m 0 0 0 0 0 0 0 0 13 da db cs (w73q_1 q0 q1 q2 q3 q4 q5 q6 q7) (w73q_2 q0 q1 q2 q3 q4 q5 q6 q7) (w73q_3 q0 q1 q2 q3 q4 q5 q6 q7) (w73q_4 q0 q1 q2 q3 q4 q5 q6 q7) (w73q_5 q0 q1 q2 q3 q4 q5 q6 q7) (w73q_6 q0 q1 q2 q3 q4 q5 q6 q7) (w73q_7 q0 q1 q2 q3 q4 q5 q6 q7) (w73q_8 q0 q1 q2 q3 q4 q5 q6 q7)) (.lf (v72a_0_m12_0 da db cs (w73q_1 q0 q1 q2 q3 q4 q5 q6 q7) (w73q_2 q0 q1 q2 q3 q4 q5 q6 q7) (w73q_3 q0 q1 q2 q3 q4 q5 q6 q7) (w73q_4 q0 q1 q2 q3 q4 q5 q6 q7) (w73q_5 q0 q1 q2 q3 q4 q5 q6 q7) (w73q_6 q0 q1 q2 q3 q4 q5 q6 q7) (w73q_7 q0 q1 q2 q3 q4 q5 q6 q7) (w73q_8 q0 q1 q2 q3 q4 q5 q6 q7) da' db' cs' (w73q_1 q0 q1 q2 q3 q4 q5 q6 q7) (w73q_2 q0 q1 q2 q3 q4 q5 q6 q7) (w73q_3 q0 q1 q2 q3 q4 q5 q6 q7) (w73q_4 q0 q1 q2 q3 q4 q5 q6 q7) (w73q_5 q0 q1 q2 q3 q4 q5 q6 q7) (w73q_6 q0 q1 q2 q3 q4 q5 q6 q7) (w73q_7 q0 q1 q2 q3 q4 q5 q6 q7) (w73q_8 q0 q1 q2 q3 q4 q5 q6 q7) 0 0 0 0 0 0 0 0 0 (w73q_0 q0 q1 q2 q3 q4 q5 q6 q7) m 0 0 0 0 0 0 0 0 13 da db cs (w73q_1 q0 q1 q2 q3 q4 q5 q6 q7) (w73q_2 q0 q1 q2 q3 q4 q5 q6 q7) (w73q_3 q0 q1 q2 q3 q4 q5 q6 q7) (w73q_4 q0 q1 q2 q3 q4 q5 q6 q7) (w73q_5 q0 q1 q2 q3 q4 q5 q6 q7) (w73q_6 q0 q1 q2 q3 q4 q5 q6 q7) (w73q_7 q0 q1 q2 q3 q4 q5 q6 q7) (w73q_8 q0 q1 q2 q3 q4 q5 q6 q7), v72a_0_m12_1 da db cs (w73q_1 q0 q1 q2 q3 q4 q5 q6 q7) (w73q_2 q0 q1 q2 q3 q4 q5 q6 q7) (w73q_3 q0 q1 q2 q3 q4 q5 q6 q7) (w73q_4 q0 q1 q2 q3 q4 q5 q6 q7) (w73q_5 q0 q1 q2 q3 q4 q5 q6 q7) (w73q_6 q0 q1 q2 q3 q4 q5 q6 q7) (w73q_7 q0 q1 q2 q3 q4 q5 q6 q7) (w73q_8 q0 q1 q2 q3 q4 q5 q6 q7) da' db' cs' (w73q_1 q0 q1 q2 q3 q4 q5 q6 q7) (w73q_2 q0 q1 q2 q3 q4 q5 q6 q7) (w73q_3 q0 q1 q2 q3 q4 q5 q6 q7) (w73q_4 q0 q1 q2 q3 q4 q5 q6 q7) (w73q_5 q0 q1 q2 q3 q4 q5 q6 q7) (w73q_6 q0 q1 q2 q3 q4 q5 q6 q7) (w73q_7 q0 q1 q2 q3 q4 q5 q6 q7) (w73q_8 q0 q1 q2 q3 q4 q5 q6 q7) 0 0 0 0 0 0 0 0 0 (w73q_0 q0 q1 q2 q3 q4 q5 q6 q7) m 0 0 0 0 0 0 0 0 13 da db cs (w73q_1 q0 q1 q2 q3 q4 q5 q6 q7) (w73q_2 q0 q1 q2 q3 q4 q5 q6 q7) (w73q_3 q0 q1 q2 q3 q4 q5 q6 q7) (w73q_4 q0 q1 q2 q3 q4 q5 q6 q7) (w73q_5 q0 q1 q2 q3 q4 q5 q6 q7) (w73q_6 q0 q1 q2 q3 q4 q5 q6 q7) (w73q_7 q0 q1 q2 q3 q4 q5 q6 q7) (w73q_8 q0 q1 q2 q3 q4 q5 q6 q7), v72a_0_m12_2 da db cs (w73q_1 q0 q1 q2 q3 q4 q5 q6 q7) (w73q_2 q0 q1 q2 q3 q4 q5 q6 q7) (w73q_3 q0 q1 q2 q3 q4 q5 q6 q7) (w73q_4 q0 q1 q2 q3 q4 q5 q6 q7) (w73q_5 q0 q1 q2 q3 q4 q5 q6 q7) (w73q_6 q0 q1 q2 q3 q4 q5 q6 q7) (w73q_7 q0 q1 q2 q3 q4 q5 q6 q7) (w73q_8 q0 q1 q2 q3 q4 q5 q6 q7) da' db' cs' (w73q_1 q0 q1 q2 q3 q4 q5 q6 q7) (w73q_2 q0 q1 q2 q3 q4 q5 q6 q7) (w73q_3 q0 q1 q2 q3 q4 q5 q6 q7) (w73q_4 q0 q1 q2 q3 q4 q5 q6 q7) (w73q_5 q0 q1 q2 q3 q4 q5 q6 q7) (w73q_6 q0 q1 q2 q3 q4 q5 q6 q7) (w73q_7 q0 q1 q2 q3 q4 q5 q6 q7) (w73q_8 q0 q1 q2 q3 q4 q5 q6 q7) 0 0 0 0 0 0 0 0 0 (w73q_0 q0 q1 q2 q3 q4 q5 q6 q7) m 0 0 0 0 0 0 0 0 13 da db cs (w73q_1 q0 q1 q2 q3 q4 q5 q6 q7) (w73q_2 q0 q1 q2 q3 q4 q5 q6 q7) (w73q_3 q0 q1 q2 q3 q4 q5 q6 q7) (w73q_4 q0 q1 q2 q3 q4 q5 q6 q7) (w73q_5 q0 q1 q2 q3 q4 q5 q6 q7) (w73q_6 q0 q1 q2 q3 q4 q5 q6 q7) (w73q_7 q0 q1 q2 q3 q4 q5 q6 q7) (w73q_8 q0 q1 q2 q3 q4 q5 q6 q7), v72a_0_m12_3 da db cs (w73q_1 q0 q1 q2 q3 q4 q5 q6 q7) (w73q_2 q0 q1 q2 q3 q4 q5 q6 q7) (w73q_3 q0 q1 q2 q3 q4 q5 q6 q7) (w73q_4 q0 q1 q2 q3 q4 q5 q6 q7) (w73q_5 q0 q1 q2 q3 q4 q5 q6 q7) (w73q_6 q0 q1 q2 q3 q4 q5 q6 q7) (w73q_7 q0 q1 q2 q3 q4 q5 q6 q7) (w73q_8 q0 q1 q2 q3 q4 q5 q6 q7) da' db' cs' (w73q_1 q0 q1 q2 q3 q4 q5 q6 q7) (w73q_2 q0 q1 q2 q3 q4 q5 q6 q7) (w73q_3 q0 q1 q2 q3 q4 q5 q6 q7) (w73q_4 q0 q1 q2 q3 q4 q5 q6 q7) (w73q_5 q0 q1 q2 q3 q4 q5 q6 q7) (w73q_6 q0 q1 q2 q3 q4 q5 q6 q7) (w73q_7 q0 q1 q2 q3 q4 q5 q6 q7) (w73q_8 q0 q1 q2 q3 q4 q5 q6 q7) 0 0 0 0 0 0 0 0 0 (w73q_0 q0 q1 q2 q3 q4 q5 q6 q7) m 0 0 0 0 0 0 0 0 13 da db cs (w73q_1 q0 q1 q2 q3 q4 q5 q6 q7) (w73q_2 q0 q1 q2 q3 q4 q5 q6 q7) (w73q_3 q0 q1 q2 q3 q4 q5 q6 q7) (w73q_4 q0 q1 q2 q3 q4 q5 q6 q7) (w73q_5 q0 q1 q2 q3 q4 q5 q6 q7) (w73q_6 q0 q1 q2 q3 q4 q5 q6 q7) (w73q_7 q0 q1 q2 q3 q4 q5 q6 q7) (w73q_8 q0 q1 q2 q3 q4 q5 q6 q7), v72a_0_m12_4 da db cs (w73q_1 q0 q1 q2 q3 q4 q5 q6 q7) (w73q_2 q0 q1 q2 q3 q4 q5 q6 q7) (w73q_3 q0 q1 q2 q3 q4 q5 q6 q7) (w73q_4 q0 q1 q2 q3 q4 q5 q6 q7) (w73q_5 q0 q1 q2 q3 q4 q5 q6 q7) (w73q_6 q0 q1 q2 q3 q4 q5 q6 q7) (w73q_7 q0 q1 q2 q3 q4 q5 q6 q7) (w73q_8 q0 q1 q2 q3 q4 q5 q6 q7) da' db' cs' (w73q_1 q0 q1 q2 q3 q4 q5 q6 q7) (w73q_2 q0 q1 q2 q3 q4 q5 q6 q7) (w73q_3 q0 q1 q2 q3 q4 q5 q6 q7) (w73q_4 q0 q1 q2 q3 q4 q5 q6 q7) (w73q_5 q0 q1 q2 q3 q4 q5 q6 q7) (w73q_6 q0 q1 q2 q3 q4 q5 q6 q7) (w73q_7 q0 q1 q2 q3 q4 q5 q6 q7) (w73q_8 q0 q1 q2 q3 q4 q5 q6 q7) 0 0 0 0 0 0 0 0 0 (w73q_0 q0 q1 q2 q3 q4 q5 q6 q7) m 0 0 0 0 0 0 0 0 13 da db cs (w73q_1 q0 q1 q2 q3 q4 q5 q6 q7) (w73q_2 q0 q1 q2 q3 q4 q5 q6 q7) (w73q_3 q0 q1 q2 q3 q4 q5 q6 q7) (w73q_4 q0 q1 q2 q3 q4 q5 q6 q7) (w73q_5 q0 q1 q2 q3 q4 q5 q6 q7) (w73q_6 q0 q1 q2 q3 q4 q5 q6 q7) (w73q_7 q0 q1 q2 q3 q4 q5 q6 q7) (w73q_8 q0 q1 q2 q3 q4 q5 q6 q7), v72a_0_m12_5 da db cs (w73q_1 q0 q1 q2 q3 q4 q5 q6 q7) (w73q_2 q0 q1 q2 q3 q4 q5 q6 q7) (w73q_3 q0 q1 q2 q3 q4 q5 q6 q7) (w73q_4 q0 q1 q2 q3 q4 q5 q6 q7) (w73q_5 q0 q1 q2 q3 q4 q5 q6 q7) (w73q_6 q0 q1 q2 q3 q4 q5 q6 q7) (w73q_7 q0 q1 q2 q3 q4 q5 q6 q7) (w73q_8 q0 q1 q2 q3 q4 q5 q6 q7) da' db' cs' (w73q_1 q0 q1 q2 q3 q4 q5 q6 q7) (w73q_2 q0 q1 q2 q3 q4 q5 q6 q7) (w73q_3 q0 q1 q2 q3 q4 q5 q6 q7) (w73q_4 q0 q1 q2 q3 q4 q5 q6 q7) (w73q_5 q0 q1 q2 q3 q4 q5 q6 q7) (w73q_6 q0 q1 q2 q3 q4 q5 q6 q7) (w73q_7 q0 q1 q2 q3 q4 q5 q6 q7) (w73q_8 q0 q1 q2 q3 q4 q5 q6 q7) 0 0 0 0 0 0 0 0 0 (w73q_0 q0 q1 q2 q3 q4 q5 q6 q7) m 0 0 0 0 0 0 0 0 13 da db cs (w73q_1 q0 q1 q2 q3 q4 q5 q6 q7) (w73q_2 q0 q1 q2 q3 q4 q5 q6 q7) (w73q_3 q0 q1 q2 q3 q4 q5 q6 q7) (w73q_4 q0 q1 q2 q3 q4 q5 q6 q7) (w73q_5 q0 q1 q2 q3 q4 q5 q6 q7) (w73q_6 q0 q1 q2 q3 q4 q5 q6 q7) (w73q_7 q0 q1 q2 q3 q4 q5 q6 q7) (w73q_8 q0 q1 q2 q3 q4 q5 q6 q7), v72a_0_m12_6 da db cs (w73q_1 q0 q1 q2 q3 q4 q5 q6 q7) (w73q_2 q0 q1 q2 q3 q4 q5 q6 q7) (w73q_3 q0 q1 q2 q3 q4 q5 q6 q7) (w73q_4 q0 q1 q2 q3 q4 q5 q6 q7) (w73q_5 q0 q1 q2 q3 q4 q5 q6 q7) (w73q_6 q0 q1 q2 q3 q4 q5 q6 q7) (w73q_7 q0 q1 q2 q3 q4 q5 q6 q7) (w73q_8 q0 q1 q2 q3 q4 q5 q6 q7) da' db' cs' (w73q_1 q0 q1 q2 q3 q4 q5 q6 q7) (w73q_2 q0 q1 q2 q3 q4 q5 q6 q7) (w73q_3 q0 q1 q2 q3 q4 q5 q6 q7) (w73q_4 q0 q1 q2 q3 q4 q5 q6 q7) (w73q_5 q0 q1 q2 q3 q4 q5 q6 q7) (w73q_6 q0 q1 q2 q3 q4 q5 q6 q7) (w73q_7 q0 q1 q2 q3 q4 q5 q6 q7) (w73q_8 q0 q1 q2 q3 q4 q5 q6 q7) 0 0 0 0 0 0 0 0 0 (w73q_0 q0 q1 q2 q3 q4 q5 q6 q7) m 0 0 0 0 0 0 0 0 13 da db cs (w73q_1 q0 q1 q2 q3 q4 q5 q6 q7) (w73q_2 q0 q1 q2 q3 q4 q5 q6 q7) (w73q_3 q0 q1 q2 q3 q4 q5 q6 q7) (w73q_4 q0 q1 q2 q3 q4 q5 q6 q7) (w73q_5 q0 q1 q2 q3 q4 q5 q6 q7) (w73q_6 q0 q1 q2 q3 q4 q5 q6 q7) (w73q_7 q0 q1 q2 q3 q4 q5 q6 q7) (w73q_8 q0 q1 q2 q3 q4 q5 q6 q7), v72a_0_m12_7 da db cs (w73q_1 q0 q1 q2 q3 q4 q5 q6 q7) (w73q_2 q0 q1 q2 q3 q4 q5 q6 q7) (w73q_3 q0 q1 q2 q3 q4 q5 q6 q7) (w73q_4 q0 q1 q2 q3 q4 q5 q6 q7) (w73q_5 q0 q1 q2 q3 q4 q5 q6 q7) (w73q_6 q0 q1 q2 q3 q4 q5 q6 q7) (w73q_7 q0 q1 q2 q3 q4 q5 q6 q7) (w73q_8 q0 q1 q2 q3 q4 q5 q6 q7) da' db' cs' (w73q_1 q0 q1 q2 q3 q4 q5 q6 q7) (w73q_2 q0 q1 q2 q3 q4 q5 q6 q7) (w73q_3 q0 q1 q2 q3 q4 q5 q6 q7) (w73q_4 q0 q1 q2 q3 q4 q5 q6 q7) (w73q_5 q0 q1 q2 q3 q4 q5 q6 q7) (w73q_6 q0 q1 q2 q3 q4 q5 q6 q7) (w73q_7 q0 q1 q2 q3 q4 q5 q6 q7) (w73q_8 q0 q1 q2 q3 q4 q5 q6 q7) 0 0 0 0 0 0 0 0 0 (w73q_0 q0 q1 q2 q3 q4 q5 q6 q7) m 0 0 0 0 0 0 0 0 13 da db cs (w73q_1 q0 q1 q2 q3 q4 q5 q6 q7) (w73q_2 q0 q1 q2 q3 q4 q5 q6 q7) (w73q_3 q0 q1 q2 q3 q4 q5 q6 q7) (w73q_4 q0 q1 q2 q3 q4 q5 q6 q7) (w73q_5 q0 q1 q2 q3 q4 q5 q6 q7) (w73q_6 q0 q1 q2 q3 q4 q5 q6 q7) (w73q_7 q0 q1 q2 q3 q4 q5 q6 q7) (w73q_8 q0 q1 q2 q3 q4 q5 q6 q7), v72a_0_m12_8 da db cs (w73q_1 q0 q1 q2 q3 q4 q5 q6 q7) (w73q_2 q0 q1 q2 q3 q4 q5 q6 q7) (w73q_3 q0 q1 q2 q3 q4 q5 q6 q7) (w73q_4 q0 q1 q2 q3 q4 q5 q6 q7) (w73q_5 q0 q1 q2 q3 q4 q5 q6 q7) (w73q_6 q0 q1 q2 q3 q4 q5 q6 q7) (w73q_7 q0 q1 q2 q3 q4 q5 q6 q7) (w73q_8 q0 q1 q2 q3 q4 q5 q6 q7) da' db' cs' (w73q_1 q0 q1 q2 q3 q4 q5 q6 q7) (w73q_2 q0 q1 q2 q3 q4 q5 q6 q7) (w73q_3 q0 q1 q2 q3 q4 q5 q6 q7) (w73q_4 q0 q1 q2 q3 q4 q5 q6 q7) (w73q_5 q0 q1 q2 q3 q4 q5 q6 q7) (w73q_6 q0 q1 q2 q3 q4 q5 q6 q7) (w73q_7 q0 q1 q2 q3 q4 q5 q6 q7) (w73q_8 q0 q1 q2 q3 q4 q5 q6 q7) 0 0 0 0 0 0 0 0 0 (w73q_0 q0 q1 q2 q3 q4 q5 q6 q7) m 0 0 0 0 0 0 0 0 13 da db cs (w73q_1 q0 q1 q2 q3 q4 q5 q6 q7) (w73q_2 q0 q1 q2 q3 q4 q5 q6 q7) (w73q_3 q0 q1 q2 q3 q4 q5 q6 q7) (w73q_4 q0 q1 q2 q3 q4 q5 q6 q7) (w73q_5 q0 q1 q2 q3 q4 q5 q6 q7) (w73q_6 q0 q1 q2 q3 q4 q5 q6 q7) (w73q_7 q0 q1 q2 q3 q4 q5 q6 q7) (w73q_8 q0 q1 q2 q3 q4 q5 q6 q7), da', db', cs', v72a_0_m da db cs (w73q_1 q0 q1 q2 q3 q4 q5 q6 q7) (w73q_2 q0 q1 q2 q3 q4 q5 q6 q7) (w73q_3 q0 q1 q2 q3 q4 q5 q6 q7) (w73q_4 q0 q1 q2 q3 q4 q5 q6 q7) (w73q_5 q0 q1 q2 q3 q4 q5 q6 q7) (w73q_6 q0 q1 q2 q3 q4 q5 q6 q7) (w73q_7 q0 q1 q2 q3 q4 q5 q6 q7) (w73q_8 q0 q1 q2 q3 q4 q5 q6 q7) da' db' cs' (w73q_1 q0 q1 q2 q3 q4 q5 q6 q7) (w73q_2 q0 q1 q2 q3 q4 q5 q6 q7) (w73q_3 q0 q1 q2 q3 q4 q5 q6 q7) (w73q_4 q0 q1 q2 q3 q4 q5 q6 q7) (w73q_5 q0 q1 q2 q3 q4 q5 q6 q7) (w73q_6 q0 q1 q2 q3 q4 q5 q6 q7) (w73q_7 q0 q1 q2 q3 q4 q5 q6 q7) (w73q_8 q0 q1 q2 q3 q4 q5 q6 q7) 0 0 0 0 0 0 0 0 0 (w73q_0 q0 q1 q2 q3 q4 q5 q6 q7) m 0 0 0 0 0 0 0 0 13 da db cs (w73q_1 q0 q1 q2 q3 q4 q5 q6 q7) (w73q_2 q0 q1 q2 q3 q4 q5 q6 q7) (w73q_3 q0 q1 q2 q3 q4 q5 q6 q7) (w73q_4 q0 q1 q2 q3 q4 q5 q6 q7) (w73q_5 q0 q1 q2 q3 q4 q5 q6 q7) (w73q_6 q0 q1 q2 q3 q4 q5 q6 q7) (w73q_7 q0 q1 q2 q3 q4 q5 q6 q7) (w73q_8 q0 q1 q2 q3 q4 q5 q6 q7))) (.nn))) (.nn)
noncomputable def g72 (da db : Int) (cs : List (List AV)) (da' db' : Int) (cs' : List (List AV)) (q0 q1 q2 q3 q4 q5 q6 q7 : Int) (m : List (AV × AV)) : Bool := (t72 da db cs da' db' cs' q0 q1 q2 q3 q4 q5 q6 q7 m).g
noncomputable def w72_0 (da db : Int) (cs : List (List AV)) (da' db' : Int) (cs' : List (List AV)) (q0 q1 q2 q3 q4 q5 q6 q7 : Int) (m : List (AV × AV)) : Int := (t72 da db cs da' db' cs' q0 q1 q2 q3 q4 q5 q6 q7 m).val.1
noncomputable def w72_1 (da db : Int) (cs : List (List AV)) (da' db' : Int) (cs' : List (List AV)) (q0 q1 q2 q3 q4 q5 q6 q7 : Int) (m : List (AV × AV)) : Int := (t72 da db cs da' db' cs' q0 q1 q2 q3 q4 q5 q6 q7 m).val.2.1
noncomputable def w72_2 (da db : Int) (cs : List (List AV)) (da' db' : Int) (cs' : List (List AV)) (q0 q1 q2 q3 q4 q5 q6 q7 : Int) (m : List (AV × AV)) : Int := (t72 da db cs da' db' cs' q0 q1 q2 q3 q4 q5 q6 q7 m).val.2.2.1
noncomputable def w72_3 (da db : Int) (cs : List (List AV)) (da' db' : Int) (cs' : List (List AV)) (q0 q1 q2 q3 q4 q5 q6 q7 : Int) (m : List (AV × AV)) : Int := (t72 da db cs da' db' cs' q0 q1 q2 q3 q4 q5 q6 q7 m).val.2.2.2.1
noncomputable def w72_4 (da db : Int) (cs : List (List AV)) (da' db' : Int) (cs' : List (List AV)) (q0 q1 q2 q3 q4 q5 q6 q7 : Int) (m : List (AV × AV)) : Int := (t72 da db cs da' db' cs' q0 q1 q2 q3 q4 q5 q6 q7 m).val.2.2.2.2.1
noncomputable def w72_5 (da db : Int) (cs : List (List AV)) (da' db' : Int) (cs' : List (List AV)) (q0 q1 q2 q3 q4 q5 q6 q7 : Int) (m : List (AV × AV)) : Int := (t72 da db cs da' db' cs' q0 q1 q2 q3 q4 q5 q6 q7 m).val.2.2.2.2.2.1
noncomputable def w72_6 (da db : Int) (cs : List (List AV)) (da' db' : Int) (cs' : List (List AV)) (q0 q1 q2 q3 q4 q5 q6 q7 : Int) (m : List (AV × AV)) : Int := (t72 da db cs da' db' cs' q0 q1 q2 q3 q4 q5 q6 q7 m).val.2.2.2.2.2.2.1
noncomputable def w72_7 (da db : Int) (cs : List (List AV)) (da' db' : Int) (cs' : List (List AV)) (q0 q1 q2 q3 q4 q5 q6 q7 : Int) (m : List (AV × AV)) : Int := (t72 da db cs da' db' cs' q0 q1 q2 q3 q4 q5 q6 q7 m).val.2.2.2.2.2.2.2.1
noncomputable def w72_8 (da db : Int) (cs : List (List AV)) (da' db' : Int) (cs' : List (List AV)) (q0 q1 q2 q3 q4 q5 q6 q7 : Int) (m : List (AV × AV)) : Int := (t72 da db cs da' db' cs' q0 q1 q2 q3 q4 q5 q6 q7 m).val.2.2.2.2.2.2.2.2.1
noncomputable def w72_9 (da db : Int) (cs : List (List AV)) (da' db' : Int) (cs' : List (List AV)) (q0 q1 q2 q3 q4 q5 q6 q7 : Int) (m : List (AV × AV)) : Int := (t72 da db cs da' db' cs' q0 q1 q2 q3 q4 q5 q6 q7 m).val.2.2.2.2.2.2.2.2.2.1
noncomputable def w72_10 (da db : Int) (cs : List (List AV)) (da' db' : Int) (cs' : List (List AV)) (q0 q1 q2 q3 q4 q5 q6 q7 : Int) (m : List (AV × AV)) : Int := (t72 da db cs da' db' cs' q0 q1 q2 q3 q4 q5 q6 q7 m).val.2.2.2.2.2.2.2.2.2.2.1
noncomputable def w72_11 (da db : Int) (cs : List (List AV)) (da' db' : Int) (cs' : List (List AV)) (q0 q1 q2 q3 q4 q5 q6 q7 : Int) (m : List (AV × AV)) : List (List AV) := (t72 da db cs da' db' cs' q0 q1 q2 q3 q4 q5 q6 q7 m).val.2.2.2.2.2.2.2.2.2.2.2.1
noncomputable def w72_12 (da db : Int) (cs : List (List AV)) (da' db' : Int) (cs' : List (List AV)) (q0 q1 q2 q3 q4 q5 q6 q7 : Int) (m : List (AV × AV)) : List (AV × AV) := (t72 da db cs da' db' cs' q0 q1 q2 q3 q4 q5 q6 q7 m).val.2.2.2.2.2.2.2.2.2.2.2.2
theorem eq72 (da db : Int) (cs : List (List AV)) (da' db' : Int) (cs' : List (List AV)) (q0 q1 q2 q3 q4 q5 q6 q7 : Int) (m : List (AV × AV)) : evM Try.prog SP2 ro72 L72 Try.f72 [.agg [.i .i64 q0, .i .i64 q1, .i .i64 q2, .i .i64 q3, .i .i64 q4, .i .i64 q5, .i .i64 q6, .i .i64 q7], .rp [.int .i64, .int .i64, .sl 64] [.i .i64 da, .i .i64 db, .rs 64 cs] 0, .p 0 0 0, .p 1 0 0] [.row 101 [[.mp 2]], .row 102 [[.fn 72 [.rp [.int .i64, .int .i64, .sl 64] [.i .i64 da', .i .i64 db', .rs 64 cs'] 0, .p 0 0 0, .p 1 0 0]]], .mp 104 106 m] = (t72 da db cs da' db' cs' q0 q1 q2 q3 q4 q5 q6 q7 m).opt (fun (x : (Int) × (Int) × (Int) × (Int) × (Int) × (Int) × (Int) × (Int) × (Int) × (Int) × (Int) × (List (List AV)) × (List (AV × AV))) => ((.agg [.i .i64 x.1, .i .i64 x.2.1, .i .i64 x.2.2.1, .i .i64 x.2.2.2.1, .i .i64 x.2.2.2.2.1, .i .i64 x.2.2.2.2.2.1, .i .i64 x.2.2.2.2.2.2.1, .i .i64 x.2.2.2.2.2.2.2.1, .i .i64 x.2.2.2.2.2.2.2.2.1], [.row 101 [[.mp 2]], .row 102 [[.fn 72 [.rp [.int .i64, .int .i64, .sl 64] [.i .i64 x.2.2.2.2.2.2.2.2.2.1, .i .i64 x.2.2.2.2.2.2.2.2.2.2.1, .rs 64 x.2.2.2.2.2.2.2.2.2.2.2.1] 0, .p 0 0 0, .p 1 0 0]]], .mp 104 106 x.2.2.2.2.2.2.2.2.2.2.2.2]) : AV × List Blk)) := by kernel_rfl
theorem con72 (da db : Int) (cs : List (List AV)) (da' db' : Int) (cs' : List (List AV)) (q0 q1 q2 q3 q4 q5 q6 q7 : Int) (m : List (AV × AV)) (h : g72 da db cs da' db' cs' q0 q1 q2 q3 q4 q5 q6 q7 m = true) : Con Try.prog 72 [.agg [.i .i64 q0, .i .i64 q1, .i .i64 q2, .i .i64 q3, .i .i64 q4, .i .i64 q5, .i .i64 q6, .i .i64 q7], .rp [.int .i64, .int .i64, .sl 64] [.i .i64 da, .i .i64 db, .rs 64 cs] 0, .p 0 0 0, .p 1 0 0] [.row 101 [[.mp 2]], .row 102 [[.fn 72 [.rp [.int .i64, .int .i64, .sl 64] [.i .i64 da', .i .i64 db', .rs 64 cs'] 0, .p 0 0 0, .p 1 0 0]]], .mp 104 106 m] (.agg [.i .i64 (w72_0 da db cs da' db' cs' q0 q1 q2 q3 q4 q5 q6 q7 m), .i .i64 (w72_1 da db cs da' db' cs' q0 q1 q2 q3 q4 q5 q6 q7 m), .i .i64 (w72_2 da db cs da' db' cs' q0 q1 q2 q3 q4 q5 q6 q7 m), .i .i64 (w72_3 da db cs da' db' cs' q0 q1 q2 q3 q4 q5 q6 q7 m), .i .i64 (w72_4 da db cs da' db' cs' q0 q1 q2 q3 q4 q5 q6 q7 m), .i .i64 (w72_5 da db cs da' db' cs' q0 q1 q2 q3 q4 q5 q6 q7 m), .i .i64 (w72_6 da db cs da' db' cs' q0 q1 q2 q3 q4 q5 q6 q7 m), .i .i64 (w72_7 da db cs da' db' cs' q0 q1 q2 q3 q4 q5 q6 q7 m), .i .i64 (w72_8 da db cs da' db' cs' q0 q1 q2 q3 q4 q5 q6 q7 m)]) [.row 101 [[.mp 2]], .row 102 [[.fn 72 [.rp [.int .i64, .int .i64, .sl 64] [.i .i64 (w72_9 da db cs da' db' cs' q0 q1 q2 q3 q4 q5 q6 q7 m), .i .i64 (w72_10 da db cs da' db' cs' q0 q1 q2 q3 q4 q5 q6 q7 m), .rs 64 (w72_11 da db cs da' db' cs' q0 q1 q2 q3 q4 q5 q6 q7 m)] 0, .p 0 0 0, .p 1 0 0]]], .mp 104 106 (w72_12 da db cs da' db' cs' q0 q1 q2 q3 q4 q5 q6 q7 m)] :=
  con_ofM SP2_ok mixed Try.func72 (c := c72) rfl (names 72 _ Try.func72) lok72 ((eq72 da db cs da' db' cs' q0 q1 q2 q3 q4 q5 q6 q7 m).trans (Tr.sound _ _ h))
noncomputable def e72 (args : List AV) (rows : List Blk) : Option (Bool × AV × List Blk) := match args, rows with
  | [.agg [.i .i64 q0, .i .i64 q1, .i .i64 q2, .i .i64 q3, .i .i64 q4, .i .i64 q5, .i .i64 q6, .i .i64 q7], .rp [.int .i64, .int .i64, .sl 64] [.i .i64 da, .i .i64 db, .rs 64 cs] 0, .p 0 0 0, .p 1 0 0], [.row 101 [[.mp 2]], .row 102 [[.fn 72 [.rp [.int .i64, .int .i64, .sl 64] [.i .i64 da', .i .i64 db', .rs 64 cs'] 0, .p 0 0 0, .p 1 0 0]]], .mp 104 106 m] => some (g72 da db cs da' db' cs' q0 q1 q2 q3 q4 q5 q6 q7 m, .agg [.i .i64 (w72_0 da db cs da' db' cs' q0 q1 q2 q3 q4 q5 q6 q7 m), .i .i64 (w72_1 da db cs da' db' cs' q0 q1 q2 q3 q4 q5 q6 q7 m), .i .i64 (w72_2 da db cs da' db' cs' q0 q1 q2 q3 q4 q5 q6 q7 m), .i .i64 (w72_3 da db cs da' db' cs' q0 q1 q2 q3 q4 q5 q6 q7 m), .i .i64 (w72_4 da db cs da' db' cs' q0 q1 q2 q3 q4 q5 q6 q7 m), .i .i64 (w72_5 da db cs da' db' cs' q0 q1 q2 q3 q4 q5 q6 q7 m), .i .i64 (w72_6 da db cs da' db' cs' q0 q1 q2 q3 q4 q5 q6 q7 m), .i .i64 (w72_7 da db cs da' db' cs' q0 q1 q2 q3 q4 q5 q6 q7 m), .i .i64 (w72_8 da db cs da' db' cs' q0 q1 q2 q3 q4 q5 q6 q7 m)], [.row 101 [[.mp 2]], .row 102 [[.fn 72 [.rp [.int .i64, .int .i64, .sl 64] [.i .i64 (w72_9 da db cs da' db' cs' q0 q1 q2 q3 q4 q5 q6 q7 m), .i .i64 (w72_10 da db cs da' db' cs' q0 q1 q2 q3 q4 q5 q6 q7 m), .rs 64 (w72_11 da db cs da' db' cs' q0 q1 q2 q3 q4 q5 q6 q7 m)] 0, .p 0 0 0, .p 1 0 0]]], .mp 104 106 (w72_12 da db cs da' db' cs' q0 q1 q2 q3 q4 q5 q6 q7 m)])
  | _, _ => none
theorem e72_ok (args : List AV) (rows : List Blk) (pre : Bool) (v : AV) (rows' : List Blk) (h : e72 args rows = some (pre, v, rows')) (hp : pre = true) : Con Try.prog 72 args rows v rows' := by
  unfold e72 at h
  split at h
  · cases h; exact con72 _ _ _ _ _ _ _ _ _ _ _ _ _ _ _ hp
  · cases h
-- SPEC 72
end Go.Proofs.Ytgifjphinkbcaaa

set_option maxRecDepth 100000
set_option maxHeartbeats 1000000
set_option linter.unusedVariables false
namespace Go.Proofs.Ytgifjphinkbcaaa
open Go Go.Ev
variable [LP]

/-! ### memo.get (Plan) -/
noncomputable def c76 : Code := match Try.f76.body with | some c => c | _ => .skip
theorem lok76 : LOK Try.prog SLP (ro 76) (fun _ _ => none) 3 false c76 [] :=
  lok_lo (fun _ _ _ _ _ _ _ h _ => by cases h) c76 [] false (locate_nil _) (by kernel_rfl)
noncomputable def t76 (da db : Int) (cs : List (List AV)) (da' db' : Int) (cs' : List (List AV)) (q0 q1 q2 q3 q4 q5 q6 q7 : Int) (m : List (AV × AV)) : Tr ((Int) × (Int) × (Int) × (Int) × (Int) × (Int) × (Int) × (Int) × (Int) × (Int) × (Int) × (List (List AV)) × (List (AV × AV))) :=
  .cn (!mhas (AV.agg [AV.i IntKind.i64 q0, AV.i IntKind.i64 q1, AV.i IntKind.i64 q2, AV.i IntKind.i64 q3, AV.i IntKind.i64 q4, AV.i IntKind.i64 q5, AV.i IntKind.i64 q6, AV.i IntKind.i64 q7]) m) (.cn (LP.G da db cs da' db' cs' q0 q1 q2 q3 q4 q5 q6 q7 m && true) (.lf ((LP.F da db cs da' db' cs' q0 q1 q2 q3 q4 q5 q6 q7 m).fst 0, (LP.F da db cs da' db' cs' q0 q1 q2 q3 q4 q5 q6 q7 m).fst 1, (LP.F da db cs da' db' cs' q0 q1 q2 q3 q4 q5 q6 q7 m).fst 2, (LP.F da db cs da' db' cs' q0 q1 q2 q3 q4 q5 q6 q7 m).fst 3, (LP.F da db cs da' db' cs' q0 q1 q2 q3 q4 q5 q6 q7 m).fst 4, (LP.F da db cs da' db' cs' q0 q1 q2 q3 q4 q5 q6 q7 m).fst 5, (LP.F da db cs da' db' cs' q0 q1 q2 q3 q4 q5 q6 q7 m).fst 6, (LP.F da db cs da' db' cs' q0 q1 q2 q3 q4 q5 q6 q7 m).fst 7, (LP.F da db cs da' db' cs' q0 q1 q2 q3 q4 q5 q6 q7 m).fst 8, da', db', cs', mset (AV.agg [AV.i IntKind.i64 q0, AV.i IntKind.i64 q1, AV.i IntKind.i64 q2, AV.i IntKind.i64 q3, AV.i IntKind.i64 q4, AV.i IntKind.i64 q5, AV.i IntKind.i64 q6, AV.i IntKind.i64 q7]) (AV.agg [AV.i IntKind.i64 ((LP.F da db cs da' db' cs' q0 q1 q2 q3 q4 q5 q6 q7 m).fst 0), AV.i IntKind.i64 ((LP.F da db cs da' db' cs' q0 q1 q2 q3 q4 q5 q6 q7 m).fst 1), AV.i IntKind.i64 ((LP.F da db cs da' db' cs' q0 q1 q2 q3 q4 q5 q6 q7 m).fst 2), AV.i IntKind.i64 ((LP.F da db cs da' db' cs' q0 q1 q2 q3 q4 q5 q6 q7 m).fst 3), AV.i IntKind.i64 ((LP.F da db cs da' db' cs' q0 q1 q2 q3 q4 q5 q6 q7 m).fst 4), AV.i IntKind.i64 ((LP.F da db cs da' db' cs' q0 q1 q2 q3 q4 q5 q6 q7 m).fst 5), AV.i IntKind.i64 ((LP.F da db cs da' db' cs' q0 q1 q2 q3 q4 q5 q6 q7 m).fst 6), AV.i IntKind.i64 ((LP.F da db cs da' db' cs' q0 q1 q2 q3 q4 q5 q6 q7 m).fst 7), AV.i IntKind.i64 ((LP.F da db cs da' db' cs' q0 q1 q2 q3 q4 q5 q6 q7 m).fst 8)]) (LP.F da db cs da' db' cs' q0 q1 q2 q3 q4 q5 q6 q7 m).snd)) (.nn)) (.lf (fI (cellsOf ((mget (AV.agg [AV.i IntKind.i64 q0, AV.i IntKind.i64 q1, AV.i IntKind.i64 q2, AV.i IntKind.i64 q3, AV.i IntKind.i64 q4, AV.i IntKind.i64 q5, AV.i IntKind.i64 q6, AV.i IntKind.i64 q7]) m).getD (AV.agg [AV.i IntKind.i64 0, AV.i IntKind.i64 0, AV.i IntKind.i64 0, AV.i IntKind.i64 0, AV.i IntKind.i64 0, AV.i IntKind.i64 0, AV.i IntKind.i64 0, AV.i IntKind.i64 0, AV.i IntKind.i64 0]))) 0, fI (cellsOf ((mget (AV.agg [AV.i IntKind.i64 q0, AV.i IntKind.i64 q1, AV.i IntKind.i64 q2, AV.i IntKind.i64 q3, AV.i IntKind.i64 q4, AV.i IntKind.i64 q5, AV.i IntKind.i64 q6, AV.i IntKind.i64 q7]) m).getD (AV.agg [AV.i IntKind.i64 0, AV.i IntKind.i64 0, AV.i IntKind.i64 0, AV.i IntKind.i64 0, AV.i IntKind.i64 0, AV.i IntKind.i64 0, AV.i IntKind.i64 0, AV.i IntKind.i64 0, AV.i IntKind.i64 0]))) 1, fI (cellsOf ((mget (AV.agg [AV.i IntKind.i64 q0, AV.i IntKind.i64 q1, AV.i IntKind.i64 q2, AV.i IntKind.i64 q3, AV.i IntKind.i64 q4, AV.i IntKind.i64 q5, AV.i IntKind.i64 q6, AV.i IntKind.i64 q7]) m).getD (AV.agg [AV.i IntKind.i64 0, AV.i IntKind.i64 0, AV.i IntKind.i64 0, AV.i IntKind.i64 0, AV.i IntKind.i64 0, AV.i IntKind.i64 0, AV.i IntKind.i64 0, AV.i IntKind.i64 0, AV.i IntKind.i64 0]))) 2, fI (cellsOf ((mget (AV.agg [AV.i IntKind.i64 q0, AV.i IntKind.i64 q1, AV.i IntKind.i64 q2, AV.i IntKind.i64 q3, AV.i IntKind.i64 q4, AV.i IntKind.i64 q5, AV.i IntKind.i64 q6, AV.i IntKind.i64 q7]) m).getD (AV.agg [AV.i IntKind.i64 0, AV.i IntKind.i64 0, AV.i IntKind.i64 0, AV.i IntKind.i64 0, AV.i IntKind.i64 0, AV.i IntKind.i64 0, AV.i IntKind.i64 0, AV.i IntKind.i64 0, AV.i IntKind.i64 0]))) 3, fI (cellsOf ((mget (AV.agg [AV.i IntKind.i64 q0, AV.i IntKind.i64 q1, AV.i IntKind.i64 q2, AV.i IntKind.i64 q3, AV.i IntKind.i64 q4, AV.i IntKind.i64 q5, AV.i IntKind.i64 q6, AV.i IntKind.i64 q7]) m).getD (AV.agg [AV.i IntKind.i64 0, AV.i IntKind.i64 0, AV.i IntKind.i64 0, AV.i IntKind.i64 0, AV.i IntKind.i64 0, AV.i IntKind.i64 0, AV.i IntKind.i64 0, AV.i IntKind.i64 0, AV.i IntKind.i64 0]))) 4, fI (cellsOf ((mget (AV.agg [AV.i IntKind.i64 q0, AV.i IntKind.i64 q1, AV.i IntKind.i64 q2, AV.i IntKind.i64 q3, AV.i IntKind.i64 q4, AV.i IntKind.i64 q5, AV.i IntKind.i64 q6, AV.i IntKind.i64 q7]) m).getD (AV.agg [AV.i IntKind.i64 0, AV.i IntKind.i64 0, AV.i IntKind.i64 0, AV.i IntKind.i64 0, AV.i IntKind.i64 0, AV.i IntKind.i64 0, AV.i IntKind.i64 0, AV.i IntKind.i64 0, AV.i IntKind.i64 0]))) 5, fI (cellsOf ((mget (AV.agg [AV.i IntKind.i64 q0, AV.i IntKind.i64 q1, AV.i IntKind.i64 q2, AV.i IntKind.i64 q3, AV.i IntKind.i64 q4, AV.i IntKind.i64 q5, AV.i IntKind.i64 q6, AV.i IntKind.i64 q7]) m).getD (AV.agg [AV.i IntKind.i64 0, AV.i IntKind.i64 0, AV.i IntKind.i64 0, AV.i IntKind.i64 0, AV.i IntKind.i64 0, AV.i IntKind.i64 0, AV.i IntKind.i64 0, AV.i IntKind.i64 0, AV.i IntKind.i64 0]))) 6, fI (cellsOf ((mget (AV.agg [AV.i IntKind.i64 q0, AV.i IntKind.i64 q1, AV.i IntKind.i64 q2, AV.i IntKind.i64 q3, AV.i IntKind.i64 q4, AV.i IntKind.i64 q5, AV.i IntKind.i64 q6, AV.i IntKind.i64 q7]) m).getD (AV.agg [AV.i IntKind.i64 0, AV.i IntKind.i64 0, AV.i IntKind.i64 0, AV.i IntKind.i64 0, AV.i IntKind.i64 0, AV.i IntKind.i64 0, AV.i IntKind.i64 0, AV.i IntKind.i64 0, AV.i IntKind.i64 0]))) 7, fI (cellsOf ((mget (AV.agg [AV.i IntKind.i64 q0, AV.i IntKind.i64 q1, AV.i IntKind.i64 q2, AV.i IntKind.i64 q3, AV.i IntKind.i64 q4, AV.i IntKind.i64 q5, AV.i IntKind.i64 q6, AV.i IntKind.i64 q7]) m).getD (AV.agg [AV.i IntKind.i64 0, AV.i IntKind.i64 0, AV.i IntKind.i64 0, AV.i IntKind.i64 0, AV.i IntKind.i64 0, AV.i IntKind.i64 0, AV.i IntKind.i64 0, AV.i IntKind.i64 0, AV.i IntKind.i64 0]))) 8, da', db', cs', m))
noncomputable def g76 (da db : Int) (cs : List (List AV)) (da' db' : Int) (cs' : List (List AV)) (q0 q1 q2 q3 q4 q5 q6 q7 : Int) (m : List (AV × AV)) : Bool := (t76 da db cs da' db' cs' q0 q1 q2 q3 q4 q5 q6 q7 m).g
noncomputable def w76_0 (da db : Int) (cs : List (List AV)) (da' db' : Int) (cs' : List (List AV)) (q0 q1 q2 q3 q4 q5 q6 q7 : Int) (m : List (AV × AV)) : Int := (t76 da db cs da' db' cs' q0 q1 q2 q3 q4 q5 q6 q7 m).val.1
noncomputable def w76_1 (da db : Int) (cs : List (List AV)) (da' db' : Int) (cs' : List (List AV)) (q0 q1 q2 q3 q4 q5 q6 q7 : Int) (m : List (AV × AV)) : Int := (t76 da db cs da' db' cs' q0 q1 q2 q3 q4 q5 q6 q7 m).val.2.1
noncomputable def w76_2 (da db : Int) (cs : List (List AV)) (da' db' : Int) (cs' : List (List AV)) (q0 q1 q2 q3 q4 q5 q6 q7 : Int) (m : List (AV × AV)) : Int := (t76 da db cs da' db' cs' q0 q1 q2 q3 q4 q5 q6 q7 m).val.2.2.1
noncomputable def w76_3 (da db : Int) (cs : List (List AV)) (da' db' : Int) (cs' : List (List AV)) (q0 q1 q2 q3 q4 q5 q6 q7 : Int) (m : List (AV × AV)) : Int := (t76 da db cs da' db' cs' q0 q1 q2 q3 q4 q5 q6 q7 m).val.2.2.2.1
noncomputable def w76_4 (da db : Int) (cs : List (List AV)) (da' db' : Int) (cs' : List (List AV)) (q0 q1 q2 q3 q4 q5 q6 q7 : Int) (m : List (AV × AV)) : Int := (t76 da db cs da' db' cs' q0 q1 q2 q3 q4 q5 q6 q7 m).val.2.2.2.2.1
noncomputable def w76_5 (da db : Int) (cs : List (List AV)) (da' db' : Int) (cs' : List (List AV)) (q0 q1 q2 q3 q4 q5 q6 q7 : Int) (m : List (AV × AV)) : Int := (t76 da db cs da' db' cs' q0 q1 q2 q3 q4 q5 q6 q7 m).val.2.2.2.2.2.1
noncomputable def w76_6 (da db : Int) (cs : List (List AV)) (da' db' : Int) (cs' : List (List AV)) (q0 q1 q2 q3 q4 q5 q6 q7 : Int) (m : List (AV × AV)) : Int := (t76 da db cs da' db' cs' q0 q1 q2 q3 q4 q5 q6 q7 m).val.2.2.2.2.2.2.1
noncomputable def w76_7 (da db : Int) (cs : List (List AV)) (da' db' : Int) (cs' : List (List AV)) (q0 q1 q2 q3 q4 q5 q6 q7 : Int) (m : List (AV × AV)) : Int := (t76 da db cs da' db' cs' q0 q1 q2 q3 q4 q5 q6 q7 m).val.2.2.2.2.2.2.2.1
noncomputable def w76_8 (da db : Int) (cs : List (List AV)) (da' db' : Int) (cs' : List (List AV)) (q0 q1 q2 q3 q4 q5 q6 q7 : Int) (m : List (AV × AV)) : Int := (t76 da db cs da' db' cs' q0 q1 q2 q3 q4 q5 q6 q7 m).val.2.2.2.2.2.2.2.2.1
noncomputable def w76_9 (da db : Int) (cs : List (List AV)) (da' db' : Int) (cs' : List (List AV)) (q0 q1 q2 q3 q4 q5 q6 q7 : Int) (m : List (AV × AV)) : Int := (t76 da db cs da' db' cs' q0 q1 q2 q3 q4 q5 q6 q7 m).val.2.2.2.2.2.2.2.2.2.1
noncomputable def w76_10 (da db : Int) (cs : List (List AV)) (da' db' : Int) (cs' : List (List AV)) (q0 q1 q2 q3 q4 q5 q6 q7 : Int) (m : List (AV × AV)) : Int := (t76 da db cs da' db' cs' q0 q1 q2 q3 q4 q5 q6 q7 m).val.2.2.2.2.2.2.2.2.2.2.1
noncomputable def w76_11 (da db : Int) (cs : List (List AV)) (da' db' : Int) (cs' : List (List AV)) (q0 q1 q2 q3 q4 q5 q6 q7 : Int) (m : List (AV × AV)) : List (List AV) := (t76 da db cs da' db' cs' q0 q1 q2 q3 q4 q5 q6 q7 m).val.2.2.2.2.2.2.2.2.2.2.2.1
noncomputable def w76_12 (da db : Int) (cs : List (List AV)) (da' db' : Int) (cs' : List (List AV)) (q0 q1 q2 q3 q4 q5 q6 q7 : Int) (m : List (AV × AV)) : List (AV × AV) := (t76 da db cs da' db' cs' q0 q1 q2 q3 q4 q5 q6 q7 m).val.2.2.2.2.2.2.2.2.2.2.2.2
theorem eq76 (da db : Int) (cs : List (List AV)) (da' db' : Int) (cs' : List (List AV)) (q0 q1 q2 q3 q4 q5 q6 q7 : Int) (m : List (AV × AV)) : evM Try.prog SLP (ro 76) (fun _ _ => none) Try.f76 [.p 0 0 0, .agg [.i .i64 q0, .i .i64 q1, .i .i64 q2, .i .i64 q3, .i .i64 q4, .i .i64 q5, .i .i64 q6, .i .i64 q7], .fn 72 [.rp [.int .i64, .int .i64, .sl 64] [.i .i64 da, .i .i64 db, .rs 64 cs] 0, .p 0 0 0, .p 1 0 0]] [.row 101 [[.mp 2]], .row 102 [[.fn 72 [.rp [.int .i64, .int .i64, .sl 64] [.i .i64 da', .i .i64 db', .rs 64 cs'] 0, .p 0 0 0, .p 1 0 0]]], .mp 104 106 m] = (t76 da db cs da' db' cs' q0 q1 q2 q3 q4 q5 q6 q7 m).opt (fun (x : (Int) × (Int) × (Int) × (Int) × (Int) × (Int) × (Int) × (Int) × (Int) × (Int) × (Int) × (List (List AV)) × (List (AV × AV))) => ((.agg [.i .i64 x.1, .i .i64 x.2.1, .i .i64 x.2.2.1, .i .i64 x.2.2.2.1, .i .i64 x.2.2.2.2.1, .i .i64 x.2.2.2.2.2.1, .i .i64 x.2.2.2.2.2.2.1, .i .i64 x.2.2.2.2.2.2.2.1, .i .i64 x.2.2.2.2.2.2.2.2.1], [.row 101 [[.mp 2]], .row 102 [[.fn 72 [.rp [.int .i64, .int .i64, .sl 64] [.i .i64 x.2.2.2.2.2.2.2.2.2.1, .i .i64 x.2.2.2.2.2.2.2.2.2.2.1, .rs 64 x.2.2.2.2.2.2.2.2.2.2.2.1] 0, .p 0 0 0, .p 1 0 0]]], .mp 104 106 x.2.2.2.2.2.2.2.2.2.2.2.2]) : AV × List Blk)) := by kernel_rfl
theorem con76 (da db : Int) (cs : List (List AV)) (da' db' : Int) (cs' : List (List AV)) (q0 q1 q2 q3 q4 q5 q6 q7 : Int) (m : List (AV × AV)) (h : g76 da db cs da' db' cs' q0 q1 q2 q3 q4 q5 q6 q7 m = true) : Con Try.prog 76 [.p 0 0 0, .agg [.i .i64 q0, .i .i64 q1, .i .i64 q2, .i .i64 q3, .i .i64 q4, .i .i64 q5, .i .i64 q6, .i .i64 q7], .fn 72 [.rp [.int .i64, .int .i64, .sl 64] [.i .i64 da, .i .i64 db, .rs 64 cs] 0, .p 0 0 0, .p 1 0 0]] [.row 101 [[.mp 2]], .row 102 [[.fn 72 [.rp [.int .i64, .int .i64, .sl 64] [.i .i64 da', .i .i64 db', .rs 64 cs'] 0, .p 0 0 0, .p 1 0 0]]], .mp 104 106 m] (.agg [.i .i64 (w76_0 da db cs da' db' cs' q0 q1 q2 q3 q4 q5 q6 q7 m), .i .i64 (w76_1 da db cs da' db' cs' q0 q1 q2 q3 q4 q5 q6 q7 m), .i .i64 (w76_2 da db cs da' db' cs' q0 q1 q2 q3 q4 q5 q6 q7 m), .i .i64 (w76_3 da db cs da' db' cs' q0 q1 q2 q3 q4 q5 q6 q7 m), .i .i64 (w76_4 da db cs da' db' cs' q0 q1 q2 q3 q4 q5 q6 q7 m), .i .i64 (w76_5 da db cs da' db' cs' q0 q1 q2 q3 q4 q5 q6 q7 m), .i .i64 (w76_6 da db cs da' db' cs' q0 q1 q2 q3 q4 q5 q6 q7 m), .i .i64 (w76_7 da db cs da' db' cs' q0 q1 q2 q3 q4 q5 q6 q7 m), .i .i64 (w76_8 da db cs da' db' cs' q0 q1 q2 q3 q4 q5 q6 q7 m)]) [.row 101 [[.mp 2]], .row 102 [[.fn 72 [.rp [.int .i64, .int .i64, .sl 64] [.i .i64 (w76_9 da db cs da' db' cs' q0 q1 q2 q3 q4 q5 q6 q7 m), .i .i64 (w76_10 da db cs da' db' cs' q0 q1 q2 q3 q4 q5 q6 q7 m), .rs 64 (w76_11 da db cs da' db' cs' q0 q1 q2 q3 q4 q5 q6 q7 m)] 0, .p 0 0 0, .p 1 0 0]]], .mp 104 106 (w76_12 da db cs da' db' cs' q0 q1 q2 q3 q4 q5 q6 q7 m)] :=
  con_ofM SLP_ok mixed Try.func76 (c := c76) rfl (names 76 _ Try.func76) lok76 ((eq76 da db cs da' db' cs' q0 q1 q2 q3 q4 q5 q6 q7 m).trans (Tr.sound _ _ h))
noncomputable def e76 (args : List AV) (rows : List Blk) : Option (Bool × AV × List Blk) := match args, rows with
  | [.p 0 0 0, .agg [.i .i64 q0, .i .i64 q1, .i .i64 q2, .i .i64 q3, .i .i64 q4, .i .i64 q5, .i .i64 q6, .i .i64 q7], .fn 72 [.rp [.int .i64, .int .i64, .sl 64] [.i .i64 da, .i .i64 db, .rs 64 cs] 0, .p 0 0 0, .p 1 0 0]], [.row 101 [[.mp 2]], .row 102 [[.fn 72 [.rp [.int .i64, .int .i64, .sl 64] [.i .i64 da', .i .i64 db', .rs 64 cs'] 0, .p 0 0 0, .p 1 0 0]]], .mp 104 106 m] => some (g76 da db cs da' db' cs' q0 q1 q2 q3 q4 q5 q6 q7 m, .agg [.i .i64 (w76_0 da db cs da' db' cs' q0 q1 q2 q3 q4 q5 q6 q7 m), .i .i64 (w76_1 da db cs da' db' cs' q0 q1 q2 q3 q4 q5 q6 q7 m), .i .i64 (w76_2 da db cs da' db' cs' q0 q1 q2 q3 q4 q5 q6 q7 m), .i .i64 (w76_3 da db cs da' db' cs' q0 q1 q2 q3 q4 q5 q6 q7 m), .i .i64 (w76_4 da db cs da' db' cs' q0 q1 q2 q3 q4 q5 q6 q7 m), .i .i64 (w76_5 da db cs da' db' cs' q0 q1 q2 q3 q4 q5 q6 q7 m), .i .i64 (w76_6 da db cs da' db' cs' q0 q1 q2 q3 q4 q5 q6 q7 m), .i .i64 (w76_7 da db cs da' db' cs' q0 q1 q2 q3 q4 q5 q6 q7 m), .i .i64 (w76_8 da db cs da' db' cs' q0 q1 q2 q3 q4 q5 q6 q7 m)], [.row 101 [[.mp 2]], .row 102 [[.fn 72 [.rp [.int .i64, .int .i64, .sl 64] [.i .i64 (w76_9 da db cs da' db' cs' q0 q1 q2 q3 q4 q5 q6 q7 m), .i .i64 (w76_10 da db cs da' db' cs' q0 q1 q2 q3 q4 q5 q6 q7 m), .rs 64 (w76_11 da db cs da' db' cs' q0 q1 q2 q3 q4 q5 q6 q7 m)] 0, .p 0 0 0, .p 1 0 0]]], .mp 104 106 (w76_12 da db cs da' db' cs' q0 q1 q2 q3 q4 q5 q6 q7 m)])
  | _, _ => none
theorem e76_ok (args : List AV) (rows : List Blk) (pre : Bool) (v : AV) (rows' : List Blk) (h : e76 args rows = some (pre, v, rows')) (hp : pre = true) : Con Try.prog 76 args rows v rows' := by
  unfold e76 at h
  split at h
  · cases h; exact con76 _ _ _ _ _ _ _ _ _ _ _ _ _ _ _ hp
  · cases h
-- SPEC 76
end Go.Proofs.Ytgifjphinkbcaaa

set_option maxRecDepth 100000
set_option linter.unusedVariables false
namespace Go.Proofs.Ytgifjphinkbcaaa
open Go Go.Ev
def TrAll {β : Type} (p : β → Prop) : Tr β → Prop
  | .nn => True
  | .lf v => p v
  | .cn _ x y => TrAll p x ∧ TrAll p y
theorem TrAll.val {β : Type} [Inhabited β] {p : β → Prop} : ∀ {t : Tr β}, TrAll p t → t.g = true → p t.val
  | .nn, _, h => by cases h
  | .lf _, hp, _ => hp
  | .cn true x y, hp, h => TrAll.val (t := x) hp.1 h
  | .cn false x y, hp, h => TrAll.val (t := y) hp.2 h
theorem w76_rows [LP] (da db : Int) (cs : PS) (da' db' : Int) (cs' : PS) (q0 q1 q2 q3 q4 q5 q6 q7 : Int) (m : Mp) (h : g76 da db cs da' db' cs' q0 q1 q2 q3 q4 q5 q6 q7 m = true) : w76_9 da db cs da' db' cs' q0 q1 q2 q3 q4 q5 q6 q7 m = da' ∧ w76_10 da db cs da' db' cs' q0 q1 q2 q3 q4 q5 q6 q7 m = db' ∧ w76_11 da db cs da' db' cs' q0 q1 q2 q3 q4 q5 q6 q7 m = cs' :=
  TrAll.val (p := fun x => x.2.2.2.2.2.2.2.2.2.1 = da' ∧ x.2.2.2.2.2.2.2.2.2.2.1 = db' ∧ x.2.2.2.2.2.2.2.2.2.2.2.1 = cs') (t := t76 da db cs da' db' cs' q0 q1 q2 q3 q4 q5 q6 q7 m) (by unfold t76; exact ⟨⟨⟨rfl, rfl, rfl⟩, trivial⟩, ⟨rfl, rfl, rfl⟩⟩) h
@[reducible] noncomputable def lqOf (K : LP) : LQ where
  F := fun da db cs da' db' cs' q0 q1 q2 q3 q4 q5 q6 q7 m => (fun i => match i with | 0 => w76_0 da db cs da' db' cs' q0 q1 q2 q3 q4 q5 q6 q7 m | 1 => w76_1 da db cs da' db' cs' q0 q1 q2 q3 q4 q5 q6 q7 m | 2 => w76_2 da db cs da' db' cs' q0 q1 q2 q3 q4 q5 q6 q7 m | 3 => w76_3 da db cs da' db' cs' q0 q1 q2 q3 q4 q5 q6 q7 m | 4 => w76_4 da db cs da' db' cs' q0 q1 q2 q3 q4 q5 q6 q7 m | 5 => w76_5 da db cs da' db' cs' q0 q1 q2 q3 q4 q5 q6 q7 m | 6 => w76_6 da db cs da' db' cs' q0 q1 q2 q3 q4 q5 q6 q7 m | 7 => w76_7 da db cs da' db' cs' q0 q1 q2 q3 q4 q5 q6 q7 m | _ => w76_8 da db cs da' db' cs' q0 q1 q2 q3 q4 q5 q6 q7 m, w76_12 da db cs da' db' cs' q0 q1 q2 q3 q4 q5 q6 q7 m)
  G := fun da db cs da' db' cs' q0 q1 q2 q3 q4 q5 q6 q7 m => g76 da db cs da' db' cs' q0 q1 q2 q3 q4 q5 q6 q7 m
  ok := fun da db cs da' db' cs' q0 q1 q2 q3 q4 q5 q6 q7 m h => by
    have := con76 da db cs da' db' cs' q0 q1 q2 q3 q4 q5 q6 q7 m h
    obtain ⟨e1, e2, e3⟩ := w76_rows da db cs da' db' cs' q0 q1 q2 q3 q4 q5 q6 q7 m h
    rw [e1, e2, e3] at this
    exact this
end Go.Proofs.Ytgifjphinkbcaaa

set_option maxRecDepth 100000
set_option linter.unusedVariables false
namespace Go.Proofs.Ytgifjphinkbcaaa
open Go Go.Ev
theorem w72_rows [LQ] (da db : Int) (cs : PS) (da' db' : Int) (cs' : PS) (q0 q1 q2 q3 q4 q5 q6 q7 : Int) (m : Mp) (h : g72 da db cs da' db' cs' q0 q1 q2 q3 q4 q5 q6 q7 m = true) : w72_9 da db cs da' db' cs' q0 q1 q2 q3 q4 q5 q6 q7 m = da' ∧ w72_10 da db cs da' db' cs' q0 q1 q2 q3 q4 q5 q6 q7 m = db' ∧ w72_11 da db cs da' db' cs' q0 q1 q2 q3 q4 q5 q6 q7 m = cs' :=
  TrAll.val (p := fun x => x.2.2.2.2.2.2.2.2.2.1 = da' ∧ x.2.2.2.2.2.2.2.2.2.2.1 = db' ∧ x.2.2.2.2.2.2.2.2.2.2.2.1 = cs') (t := t72 da db cs da' db' cs' q0 q1 q2 q3 q4 q5 q6 q7 m) (by unfold t72; exact ⟨⟨⟨rfl, rfl, rfl⟩, ⟨⟨rfl, rfl, rfl⟩, trivial⟩⟩, trivial⟩) h
@[reducible] noncomputable def lpOf (K : LQ) : LP where
  F := fun da db cs da' db' cs' q0 q1 q2 q3 q4 q5 q6 q7 m => (fun i => match i with | 0 => w72_0 da db cs da' db' cs' q0 q1 q2 q3 q4 q5 q6 q7 m | 1 => w72_1 da db cs da' db' cs' q0 q1 q2 q3 q4 q5 q6 q7 m | 2 => w72_2 da db cs da' db' cs' q0 q1 q2 q3 q4 q5 q6 q7 m | 3 => w72_3 da db cs da' db' cs' q0 q1 q2 q3 q4 q5 q6 q7 m | 4 => w72_4 da db cs da' db' cs' q0 q1 q2 q3 q4 q5 q6 q7 m | 5 => w72_5 da db cs da' db' cs' q0 q1 q2 q3 q4 q5 q6 q7 m | 6 => w72_6 da db cs da' db' cs' q0 q1 q2 q3 q4 q5 q6 q7 m | 7 => w72_7 da db cs da' db' cs' q0 q1 q2 q3 q4 q5 q6 q7 m | _ => w72_8 da db cs da' db' cs' q0 q1 q2 q3 q4 q5 q6 q7 m, w72_12 da db cs da' db' cs' q0 q1 q2 q3 q4 q5 q6 q7 m)
  G := fun da db cs da' db' cs' q0 q1 q2 q3 q4 q5 q6 q7 m => g72 da db cs da' db' cs' q0 q1 q2 q3 q4 q5 q6 q7 m
  ok := fun da db cs da' db' cs' q0 q1 q2 q3 q4 q5 q6 q7 m h => by
    have := con72 da db cs da' db' cs' q0 q1 q2 q3 q4 q5 q6 q7 m h
    obtain ⟨e1, e2, e3⟩ := w72_rows da db cs da' db' cs' q0 q1 q2 q3 q4 q5 q6 q7 m h
    rw [e1, e2, e3] at this
    exact this
@[reducible] noncomputable def lpN : Nat → LP
  | 0 => { F := fun _ _ _ _ _ _ _ _ _ _ _ _ _ _ m => (fun _ => 0, m), G := fun _ _ _ _ _ _ _ _ _ _ _ _ _ _ _ => false, ok := fun _ _ _ _ _ _ _ _ _ _ _ _ _ _ _ h => by cases h }
  | n + 1 => lpOf (lqOf (lpN n))
end Go.Proofs.Ytgifjphinkbcaaa

set_option maxRecDepth 100000
set_option linter.unusedVariables false
namespace Go.Proofs.Ytgifjphinkbcaaa
open Go Go.Ev
/-! ### All patterns that fit -/
theorem iterR_ind {σ τ α : Type} {step : σ → α → Lp σ τ} (P : List α → σ → Prop) : ∀ (l pre : List α) (x : σ), P pre x → (∀ pre x a, a ∈ l → P pre x → ∃ y, step x a = .go y ∧ P (pre ++ [a]) y) → ∃ y, iterR step l x = some (.inl y) ∧ P (pre ++ l) y
  | [], pre, x, h, _ => ⟨x, rfl, by rw [List.append_nil]; exact h⟩
  | a :: l, pre, x, h, hs => by
    obtain ⟨y, h1, h2⟩ := hs pre x a (by simp) h
    obtain ⟨z, h3, h4⟩ := iterR_ind P l (pre ++ [a]) y h2 fun pre x b hb => hs pre x b (by simp [hb])
    refine ⟨z, ?_, by rw [List.append_assoc] at h4; exact h4⟩
    show (match step x a with | .go y => iterR step l y | .out y => some (.inr y) | .bad => none) = _
    rw [h1]
    exact h3
section
variable {da db : Int} {cs : List (List AV)}
theorem pat_vec (hF : RFine da db cs) {q : Nat → Int} (hq : ∀ i, i < cs.length → 0 ≤ q i ∧ q i ≤ 12) :
    okP da db cs (q 0) (q 1) (q 2) (q 3) (q 4) (q 5) (q 6) (q 7) = true ∧ (∀ it, it ∈ patX da db cs (q 0) (q 1) (q 2) (q 3) (q 4) (q 5) (q 6) (q 7) → (∀ i, i < cs.length → 0 ≤ fI it i ∧ fI it i ≤ q i) ∧ (∀ i, cs.length ≤ i → i < 8 → fI it i = 0) ∧ DD db cs (fX it) cs.length ≤ da + db) ∧
    ∀ p : Nat → Int, (∀ i, i < cs.length → 0 ≤ p i ∧ p i ≤ q i) → DD db cs p cs.length ≤ da + db → ∃ it, it ∈ patX da db cs (q 0) (q 1) (q 2) (q 3) (q 4) (q 5) (q 6) (q 7) ∧ ∀ i, i < cs.length → fI it i = p i := by
  have hN := hF.l
  have ha := hF.a
  have hb := hF.b
  have hms : ∀ j, j < cs.length → 0 ≤ fI [AV.i .i64 (q 0), .i .i64 (q 1), .i .i64 (q 2), .i .i64 (q 3), .i .i64 (q 4), .i .i64 (q 5), .i .i64 (q 6), .i .i64 (q 7)] j ∧ fI [AV.i .i64 (q 0), .i .i64 (q 1), .i .i64 (q 2), .i .i64 (q 3), .i .i64 (q 4), .i .i64 (q 5), .i .i64 (q 6), .i .i64 (q 7)] j ≤ 12 := fun j hj => by
    have e : fI [AV.i .i64 (q 0), .i .i64 (q 1), .i .i64 (q 2), .i .i64 (q 3), .i .i64 (q 4), .i .i64 (q 5), .i .i64 (q 6), .i .i64 (q 7)] j = q j := row8_get (f := q) (by omega)
    rw [e]
    exact hq j hj
  have hmj : ∀ j, j < cs.length → fI [AV.i .i64 (q 0), .i .i64 (q 1), .i .i64 (q 2), .i .i64 (q 3), .i .i64 (q 4), .i .i64 (q 5), .i .i64 (q 6), .i .i64 (q 7)] j = q j := fun j hj => row8_get (f := q) (by omega)
  have hwr : IntKind.i64.wrap (da + db) = da + db := wrap64 (by omega) (by omega)
  have hex : ∃ Xs, Pats da db cs [AV.i .i64 (q 0), .i .i64 (q 1), .i .i64 (q 2), .i .i64 (q 3), .i .i64 (q 4), .i .i64 (q 5), .i .i64 (q 6), .i .i64 (q 7)] Xs := by
    obtain ⟨l0, X0, p0⟩ := PT_ex2 hF hms cs.length 0 rfl (Nat.zero_le _) (da + db) zero8 rfl
    obtain ⟨v1, _, _⟩ := PT_vec hF hms p0 rfl (Nat.zero_le _) (by omega) (by omega)
    obtain ⟨v2, _⟩ := v1 rfl (by omega)
    have mo : ∀ {l : List (List AV)}, (∀ e, e ∈ l → ∃ Y, e = enc8 Y) → ∃ Xs : List (List AV), l = Xs.map enc8 := by
      intro l
      induction l with
      | nil => exact fun _ => ⟨[], rfl⟩
      | cons e l ih =>
        intro h
        obtain ⟨Y, rfl⟩ := h e (by simp)
        obtain ⟨Xs, rfl⟩ := ih fun e he => h e (by simp [he])
        exact ⟨Y :: Xs, rfl⟩
    obtain ⟨Xs, hXs⟩ := mo fun e he => by
      obtain ⟨Y, e1, _⟩ := v2 e he
      exact ⟨Y, e1⟩
    exact ⟨Xs, X0, by rw [hwr, ← hXs]; exact p0⟩
  have hok : okP da db cs (q 0) (q 1) (q 2) (q 3) (q 4) (q 5) (q 6) (q 7) = true := by
    unfold okP
    simp only [decide_eq_true_eq]
    exact hex
  obtain ⟨p', hp⟩ := patX_ok hok
  rw [hwr] at hp
  obtain ⟨v1, _, _⟩ := PT_vec hF hms hp rfl (Nat.zero_le _) (by omega) (by omega)
  obtain ⟨v2, v3⟩ := v1 rfl (by omega)
  refine ⟨hok, fun it hit => ?_, fun p hp1 hp2 => ?_⟩
  · obtain ⟨Y, e1, e2, e3, e4⟩ := v2 (enc8 it) (List.mem_map.2 ⟨it, hit, rfl⟩)
    have inj := enc8_inj e1
    refine ⟨fun i hi => ?_, fun i h1 h2 => ?_, ?_⟩
    · rw [inj i (by omega), ← hmj i hi]
      exact e3 i (Nat.zero_le _) hi
    · rw [inj i h2, e2 i (.inr h1)]
      rcases i with _ | _ | _ | _ | _ | _ | _ | _ | i
      all_goals first | (exfalso; omega) | rfl
    · have : DD db cs (fX it) cs.length = DD db cs (fX Y) cs.length := DD_congr fun i hi => inj i (by omega)
      rw [this]
      have e4 : DD db cs (fX Y) cs.length - 0 ≤ da + db := e4
      omega
  · obtain ⟨e, he, Y, e1, e2, e3⟩ := v3 p (fun i _ hi => by rw [hmj i hi]; exact hp1 i hi) (by show DD db cs p cs.length - 0 ≤ da + db; omega)
    obtain ⟨it, hit, rfl⟩ := List.mem_map.1 he
    have inj := enc8_inj e1
    exact ⟨it, hit, fun i hi => by rw [inj i (by omega)]; exact e3 i (Nat.zero_le _) hi⟩
end
/-! ### The first kind that is wanted -/
theorem idx_run (q : Nat → Int) : ∃ y, r73qa 0 8 (q 0) (q 1) (q 2) (q 3) (q 4) (q 5) (q 6) (q 7) 0 = some y ∧ ((∃ k : Nat, k < 8 ∧ 0 < q k ∧ y = .x0 (k : Int) (k : Int)) ∨ ((∀ i, i < 8 → q i ≤ 0) ∧ ∃ a, y = .x1 a)) := by
  have run := run_for (S := Unit) (step := fun x : S73qa => stp73qa 0 8 (q 0) (q 1) (q 2) (q 3) (q 4) (q 5) (q 6) (q 7) x.t8) 8 (fun k _ => (⟨(k : Int)⟩ : S73qa)) (fun k _ => ∀ i, i < k → q i ≤ 0) (fun _ _ (y : T73qa) => (∃ k : Nat, k < 8 ∧ 0 < q k ∧ y = .x0 (k : Int) (k : Int)) ∨ ((∀ i, i < 8 → q i ≤ 0) ∧ ∃ a, y = .x1 a))
    (fun k _ hk hI => by
      have hw : w74_0 (q k) = decide (q k > 0) := rfl
      have hg : toI ((([[AV.i IntKind.i64 (q 0), AV.i IntKind.i64 (q 1), AV.i IntKind.i64 (q 2), AV.i IntKind.i64 (q 3), AV.i IntKind.i64 (q 4), AV.i IntKind.i64 (q 5), AV.i IntKind.i64 (q 6), AV.i IntKind.i64 (q 7)]] : List (List AV)).getD 0 []).getD (0 + ((k : Nat) : Int).toNat * 1) AV.u) = q k := q_get q hk
      have hd : decide ((k : Int) < 8) = true := decide_eq_true (by omega)
      by_cases h : q k > 0
      · right
        refine ⟨.x0 (k : Int) (k : Int), ?_, .inl ⟨k, hk, h, rfl⟩⟩
        unfold stp73qa
        dsimp only
        rw [hd, inb_true hk, cts104 hk, hg, hw, decide_eq_true h]
        rfl
      · left
        refine ⟨(), ?_, fun i hi => ?_, fun y hy => hy⟩
        · unfold stp73qa
          dsimp only
          rw [hd, inb_true hk, cts104 hk, hg, hw, decide_eq_false h, wrap_succ (by omega)]
          rfl
        · rcases Nat.lt_succ_iff_lt_or_eq.1 hi with h' | rfl
          · exact hI i h'
          · omega)
    (fun _ hI => ⟨.x1 8, rfl, .inr ⟨hI, 8, rfl⟩⟩) 0 () (by omega) (fun i hi => by omega)
  exact run
theorem idx_val (q : Nat → Int) : g73q (q 0) (q 1) (q 2) (q 3) (q 4) (q 5) (q 6) (q 7) = true ∧ (w73q_1 (q 0) (q 1) (q 2) (q 3) (q 4) (q 5) (q 6) (q 7) = q 0 ∧ w73q_2 (q 0) (q 1) (q 2) (q 3) (q 4) (q 5) (q 6) (q 7) = q 1 ∧ w73q_3 (q 0) (q 1) (q 2) (q 3) (q 4) (q 5) (q 6) (q 7) = q 2 ∧ w73q_4 (q 0) (q 1) (q 2) (q 3) (q 4) (q 5) (q 6) (q 7) = q 3 ∧ w73q_5 (q 0) (q 1) (q 2) (q 3) (q 4) (q 5) (q 6) (q 7) = q 4 ∧ w73q_6 (q 0) (q 1) (q 2) (q 3) (q 4) (q 5) (q 6) (q 7) = q 5 ∧ w73q_7 (q 0) (q 1) (q 2) (q 3) (q 4) (q 5) (q 6) (q 7) = q 6 ∧ w73q_8 (q 0) (q 1) (q 2) (q 3) (q 4) (q 5) (q 6) (q 7) = q 7) ∧
    ((∃ k : Nat, k < 8 ∧ 0 < q k ∧ w73q_0 (q 0) (q 1) (q 2) (q 3) (q 4) (q 5) (q 6) (q 7) = (k : Int)) ∨ ((∀ i, i < 8 → q i ≤ 0) ∧ w73q_0 (q 0) (q 1) (q 2) (q 3) (q 4) (q 5) (q 6) (q 7) = -1)) := by
  obtain ⟨y, h1, h2⟩ := idx_run q
  unfold g73q w73q_0 w73q_1 w73q_2 w73q_3 w73q_4 w73q_5 w73q_6 w73q_7 w73q_8 t73q i73qa_0 i73qa_1 v73qa_0_t4'
  rw [h1]
  rcases h2 with ⟨k, k1, k2, rfl⟩ | ⟨k1, a, rfl⟩
  · exact ⟨rfl, ⟨rfl, rfl, rfl, rfl, rfl, rfl, rfl, rfl⟩, .inl ⟨k, k1, k2, rfl⟩⟩
  · exact ⟨rfl, ⟨rfl, rfl, rfl, rfl, rfl, rfl, rfl, rfl⟩, .inr ⟨k1, rfl⟩⟩
/-! ### What is left behind a pattern -/
theorem row8_congr {f g : Nat → Int} (h : ∀ i, i < 8 → f i = g i) : row8 f = row8 g := List.map_congr_left fun i hi => by rw [h i (by simpa using hi)]
section
theorem rest_run (p q : Nat → Int) (hp : ∀ i, i < 8 → 0 ≤ p i ∧ p i ≤ 12) (hq : ∀ i, i < 8 → 0 ≤ q i ∧ q i ≤ 12) (a1 a2 : Int) (a3 : List (List AV)) (m : List (AV × AV)) (bb0 bb1 bb2 bb3 bb4 bb5 bb6 bb7 cc0 cc1 cc2 cc3 cc4 cc5 cc6 cc7 cc8 k dd0 dd1 dd2 dd3 dd4 dd5 dd6 dd7 dd8 ee0 ee1 ee2 ee3 ee4 ee5 ee6 ee7 : Int) :
    ∃ a, r72aa (p 0) (p 1) (p 2) (p 3) (p 4) (p 5) (p 6) (p 7) a1 a2 a3 m bb0 bb1 bb2 bb3 bb4 bb5 bb6 bb7 cc0 cc1 cc2 cc3 cc4 cc5 cc6 cc7 cc8 k dd0 dd1 dd2 dd3 dd4 dd5 dd6 dd7 dd8 ee0 ee1 ee2 ee3 ee4 ee5 ee6 ee7 0 (row8 q) = some (.x0 a (row8 fun i => q i - p i)) := by
  have run := run_for (S := Unit) (step := fun x : S72aa => stp72aa (p 0) (p 1) (p 2) (p 3) (p 4) (p 5) (p 6) (p 7) a1 a2 a3 m bb0 bb1 bb2 bb3 bb4 bb5 bb6 bb7 cc0 cc1 cc2 cc3 cc4 cc5 cc6 cc7 cc8 k dd0 dd1 dd2 dd3 dd4 dd5 dd6 dd7 dd8 ee0 ee1 ee2 ee3 ee4 ee5 ee6 ee7 x.t29 x.m24) 8 (fun j _ => (⟨(j : Int), row8 fun i => if i < j then q i - p i else q i⟩ : S72aa)) (fun _ _ => True) (fun _ _ (y : T72aa) => ∃ a, y = .x0 a (row8 fun i => q i - p i))
    (fun j _ hj _ => by
      left
      refine ⟨(), ?_, trivial, fun y hy => hy⟩
      have hd : decide ((j : Int) < 8) = true := decide_eq_true (by omega)
      have hi : intsOf IntKind.i64 [AV.i IntKind.i64 (p 0), AV.i IntKind.i64 (p 1), AV.i IntKind.i64 (p 2), AV.i IntKind.i64 (p 3), AV.i IntKind.i64 (p 4), AV.i IntKind.i64 (p 5), AV.i IntKind.i64 (p 6), AV.i IntKind.i64 (p 7)] = true := rfl
      have hg : toI ([AV.i IntKind.i64 (p 0), AV.i IntKind.i64 (p 1), AV.i IntKind.i64 (p 2), AV.i IntKind.i64 (p 3), AV.i IntKind.i64 (p 4), AV.i IntKind.i64 (p 5), AV.i IntKind.i64 (p 6), AV.i IntKind.i64 (p 7)].getD ((j : Nat) : Int).toNat AV.u) = p j := by
        have := q_get p hj
        rw [Nat.zero_add, Nat.mul_one] at this
        exact this
      have hx : toI ((([row8 fun i => if i < j then q i - p i else q i] : List (List AV)).getD 0 []).getD (0 + ((j : Nat) : Int).toNat * 1) AV.u) = q j := by
        rw [Nat.zero_add, Nat.mul_one, Int.toNat_natCast]
        show fI (row8 fun i => if i < j then q i - p i else q i) j = q j
        rw [row8_get hj, if_neg (by omega)]
      have hs : setCs (([row8 fun i => if i < j then q i - p i else q i] : List (List AV)).getD 0 []) (0 + ((j : Nat) : Int).toNat * 1) [AV.i IntKind.i64 (IntKind.i64.wrap (q j - p j))] = row8 fun i => if i < j + 1 then q i - p i else q i := by
        have h1 := hp j hj
        have h2 := hq j hj
        rw [Nat.zero_add, Nat.mul_one, Int.toNat_natCast, wrap64 (by omega) (by omega)]
        show (row8 fun i => if i < j then q i - p i else q i).set j (.i .i64 (q j - p j)) = _
        rw [row8_set hj]
        refine row8_congr fun i _ => ?_
        unfold upd
        show (if i = j then q j - p j else if i < j then q i - p i else q i) = if i < j + 1 then q i - p i else q i
        by_cases h : i = j
        · subst h
          rw [if_pos rfl, if_pos (show i < i + 1 by omega)]
        · rw [if_neg h]
          by_cases h' : i < j
          · rw [if_pos h', if_pos (show i < j + 1 by omega)]
          · rw [if_neg h', if_neg (show ¬ i < j + 1 by omega)]
      unfold stp72aa
      dsimp only
      rw [hd, hi, inb_true hj, show [AV.i IntKind.i64 (p 0), AV.i IntKind.i64 (p 1), AV.i IntKind.i64 (p 2), AV.i IntKind.i64 (p 3), AV.i IntKind.i64 (p 4), AV.i IntKind.i64 (p 5), AV.i IntKind.i64 (p 6), AV.i IntKind.i64 (p 7)].length = 8 from rfl, inb_true hj, cts104 hj, hg, hx, hs, wrap_succ (by omega)]
      rfl)
    (fun _ _ => by
      refine ⟨.x0 8 (row8 fun i => q i - p i), ?_, _, rfl⟩
      have e : (row8 fun i => if i < 8 then q i - p i else q i) = row8 fun i => q i - p i := row8_congr fun i hi => if_pos hi
      unfold stp72aa
      dsimp only
      rw [e]
      rfl)
    0 () (by omega) trivial
  obtain ⟨y, h1, a, h2⟩ := run
  refine ⟨a, ?_⟩
  rw [← h2, ← h1]
  unfold r72aa
  congr 2
variable [LQ]
/-- One pattern. -/
theorem step72 (p q s : Nat → Int) (hp : ∀ i, i < 8 → 0 ≤ p i ∧ p i ≤ 12) (hq : ∀ i, i < 8 → 0 ≤ q i ∧ q i ≤ 12) (a1 a2 : Int) (a3 : List (List AV)) (m : List (AV × AV)) (f1 f2 : Int) (f3 : List (List AV)) (gg0 gg1 gg2 gg3 gg4 gg5 gg6 gg7 cc0 cc1 cc2 cc3 cc4 cc5 cc6 cc7 cc8 : Int) {k : Nat} (hk : k < 8) {it : List AV} (hit : ∀ i, i < 8 → fI it i = p i) :
    (p k = 0 → stp72a f1 f2 f3 gg0 gg1 gg2 gg3 gg4 gg5 gg6 gg7 a1 a2 a3 (q 0) (q 1) (q 2) (q 3) (q 4) (q 5) (q 6) (q 7) cc0 cc1 cc2 cc3 cc4 cc5 cc6 cc7 cc8 (k : Int) m (s 0) (s 1) (s 2) (s 3) (s 4) (s 5) (s 6) (s 7) (s 8) it = .go ⟨m, s 0, s 1, s 2, s 3, s 4, s 5, s 6, s 7, s 8⟩) ∧
    (p k ≠ 0 → LQ.G a1 a2 a3 a1 a2 a3 (q 0 - p 0) (q 1 - p 1) (q 2 - p 2) (q 3 - p 3) (q 4 - p 4) (q 5 - p 5) (q 6 - p 6) (q 7 - p 7) m = true → -1000 ≤ (LQ.F a1 a2 a3 a1 a2 a3 (q 0 - p 0) (q 1 - p 1) (q 2 - p 2) (q 3 - p 3) (q 4 - p 4) (q 5 - p 5) (q 6 - p 6) (q 7 - p 7) m).1 8 → (LQ.F a1 a2 a3 a1 a2 a3 (q 0 - p 0) (q 1 - p 1) (q 2 - p 2) (q 3 - p 3) (q 4 - p 4) (q 5 - p 5) (q 6 - p 6) (q 7 - p 7) m).1 8 ≤ 1000 →
      stp72a f1 f2 f3 gg0 gg1 gg2 gg3 gg4 gg5 gg6 gg7 a1 a2 a3 (q 0) (q 1) (q 2) (q 3) (q 4) (q 5) (q 6) (q 7) cc0 cc1 cc2 cc3 cc4 cc5 cc6 cc7 cc8 (k : Int) m (s 0) (s 1) (s 2) (s 3) (s 4) (s 5) (s 6) (s 7) (s 8) it = (if 1 + (LQ.F a1 a2 a3 a1 a2 a3 (q 0 - p 0) (q 1 - p 1) (q 2 - p 2) (q 3 - p 3) (q 4 - p 4) (q 5 - p 5) (q 6 - p 6) (q 7 - p 7) m).1 8 < s 8 then .go ⟨(LQ.F a1 a2 a3 a1 a2 a3 (q 0 - p 0) (q 1 - p 1) (q 2 - p 2) (q 3 - p 3) (q 4 - p 4) (q 5 - p 5) (q 6 - p 6) (q 7 - p 7) m).2, p 0, p 1, p 2, p 3, p 4, p 5, p 6, p 7, 1 + (LQ.F a1 a2 a3 a1 a2 a3 (q 0 - p 0) (q 1 - p 1) (q 2 - p 2) (q 3 - p 3) (q 4 - p 4) (q 5 - p 5) (q 6 - p 6) (q 7 - p 7) m).1 8⟩ else .go ⟨(LQ.F a1 a2 a3 a1 a2 a3 (q 0 - p 0) (q 1 - p 1) (q 2 - p 2) (q 3 - p 3) (q 4 - p 4) (q 5 - p 5) (q 6 - p 6) (q 7 - p 7) m).2, s 0, s 1, s 2, s 3, s 4, s 5, s 6, s 7, s 8⟩)) := by
  have h0 := hit 0 (by omega)
  have h1 := hit 1 (by omega)
  have h2 := hit 2 (by omega)
  have h3 := hit 3 (by omega)
  have h4 := hit 4 (by omega)
  have h5 := hit 5 (by omega)
  have h6 := hit 6 (by omega)
  have h7 := hit 7 (by omega)
  have hg : toI ((([[AV.i IntKind.i64 0, AV.i IntKind.i64 0, AV.i IntKind.i64 0, AV.i IntKind.i64 0, AV.i IntKind.i64 0, AV.i IntKind.i64 0, AV.i IntKind.i64 0, AV.i IntKind.i64 0]].set 0 (setCs ([[AV.i IntKind.i64 0, AV.i IntKind.i64 0, AV.i IntKind.i64 0, AV.i IntKind.i64 0, AV.i IntKind.i64 0, AV.i IntKind.i64 0, AV.i IntKind.i64 0, AV.i IntKind.i64 0]].getD 0 []) 0 [AV.i IntKind.i64 (p 0), AV.i IntKind.i64 (p 1), AV.i IntKind.i64 (p 2), AV.i IntKind.i64 (p 3), AV.i IntKind.i64 (p 4), AV.i IntKind.i64 (p 5), AV.i IntKind.i64 (p 6), AV.i IntKind.i64 (p 7)])).getD 0 []).getD (0 + ((k : Nat) : Int).toNat * 1) AV.u) = p k := q_get p hk
  obtain ⟨a, hr⟩ := rest_run p q hp hq a1 a2 a3 m (q 0) (q 1) (q 2) (q 3) (q 4) (q 5) (q 6) (q 7) cc0 cc1 cc2 cc3 cc4 cc5 cc6 cc7 cc8 (k : Int) (s 0) (s 1) (s 2) (s 3) (s 4) (s 5) (s 6) (s 7) (s 8) (p 0) (p 1) (p 2) (p 3) (p 4) (p 5) (p 6) (p 7)
  have hr : r72aa (p 0) (p 1) (p 2) (p 3) (p 4) (p 5) (p 6) (p 7) a1 a2 a3 m (q 0) (q 1) (q 2) (q 3) (q 4) (q 5) (q 6) (q 7) cc0 cc1 cc2 cc3 cc4 cc5 cc6 cc7 cc8 (k : Int) (s 0) (s 1) (s 2) (s 3) (s 4) (s 5) (s 6) (s 7) (s 8) (p 0) (p 1) (p 2) (p 3) (p 4) (p 5) (p 6) (p 7) 0 (setCs ([[AV.i IntKind.i64 0, AV.i IntKind.i64 0, AV.i IntKind.i64 0, AV.i IntKind.i64 0, AV.i IntKind.i64 0, AV.i IntKind.i64 0, AV.i IntKind.i64 0, AV.i IntKind.i64 0]].getD 0 []) 0 [AV.i IntKind.i64 (q 0), AV.i IntKind.i64 (q 1), AV.i IntKind.i64 (q 2), AV.i IntKind.i64 (q 3), AV.i IntKind.i64 (q 4), AV.i IntKind.i64 (q 5), AV.i IntKind.i64 (q 6), AV.i IntKind.i64 (q 7)]) = some (.x0 a (row8 fun i => q i - p i)) := hr
  unfold stp72a F72 G72 R72
  rw [h0, h1, h2, h3, h4, h5, h6, h7, hg, inb_true hk, cts104 hk]
  unfold i72aa_0 v72aa_0_m24
  rw [hr]
  constructor
  · intro hp0
    rw [hp0]
    rfl
  · intro hp0 hG b1 b2
    have e0 : (p k == 0) = false := by rw [beq_eq_false_iff_ne]; exact hp0
    rw [e0]
    have x0 : fI ([row8 fun i => q i - p i].getD 0 []) 0 = q 0 - p 0 := rfl
    have x1 : fI ([row8 fun i => q i - p i].getD 0 []) 1 = q 1 - p 1 := rfl
    have x2 : fI ([row8 fun i => q i - p i].getD 0 []) 2 = q 2 - p 2 := rfl
    have x3 : fI ([row8 fun i => q i - p i].getD 0 []) 3 = q 3 - p 3 := rfl
    have x4 : fI ([row8 fun i => q i - p i].getD 0 []) 4 = q 4 - p 4 := rfl
    have x5 : fI ([row8 fun i => q i - p i].getD 0 []) 5 = q 5 - p 5 := rfl
    have x6 : fI ([row8 fun i => q i - p i].getD 0 []) 6 = q 6 - p 6 := rfl
    have x7 : fI ([row8 fun i => q i - p i].getD 0 []) 7 = q 7 - p 7 := rfl
    rw [x0, x1, x2, x3, x4, x5, x6, x7, hG, wrap64 (by omega) (by omega)]
    by_cases hlt : 1 + (LQ.F a1 a2 a3 a1 a2 a3 (q 0 - p 0) (q 1 - p 1) (q 2 - p 2) (q 3 - p 3) (q 4 - p 4) (q 5 - p 5) (q 6 - p 6) (q 7 - p 7) m).1 8 < s 8
    · rw [decide_eq_true hlt, if_pos hlt]
      rfl
    · rw [decide_eq_false hlt, if_neg hlt]
      rfl
end
end Go.Proofs.Ytgifjphinkbcaaa

set_option maxRecDepth 100000
set_option linter.unusedVariables false
namespace Go.Proofs.Ytgifjphinkbcaaa
open Go Go.Ev
/-! ### What the memo of Plan keeps -/
def key8 (q : Nat → Int) : AV := .agg [AV.i IntKind.i64 (q 0), AV.i IntKind.i64 (q 1), AV.i IntKind.i64 (q 2), AV.i IntKind.i64 (q 3), AV.i IntKind.i64 (q 4), AV.i IntKind.i64 (q 5), AV.i IntKind.i64 (q 6), AV.i IntKind.i64 (q 7)]
def val9 (s : Nat → Int) : AV := .agg [AV.i IntKind.i64 (s 0), AV.i IntKind.i64 (s 1), AV.i IntKind.i64 (s 2), AV.i IntKind.i64 (s 3), AV.i IntKind.i64 (s 4), AV.i IntKind.i64 (s 5), AV.i IntKind.i64 (s 6), AV.i IntKind.i64 (s 7), AV.i IntKind.i64 (s 8)]
theorem same_ints : ∀ (l : List Int) (y : List AV), sameL (l.map fun z => .i .i64 z) y = true ↔ y = l.map fun z => .i .i64 z
  | [], y => by
    cases y with
    | nil => exact ⟨fun _ => rfl, fun _ => rfl⟩
    | cons a y => exact ⟨fun h => (by cases h), fun h => (by cases h)⟩
  | z :: l, y => by
    cases y with
    | nil => exact ⟨fun h => (by cases h), fun h => (by cases h)⟩
    | cons a y =>
      have ih := same_ints l y
      have one : sameV (.i .i64 z) a = true ↔ a = .i .i64 z := by
        cases a with
        | i k x =>
          show cond (decide (IntKind.i64 = k)) (decide (z = x)) false = true ↔ _
          constructor
          · intro h
            cases hk : decide (IntKind.i64 = k) with
            | false => rw [hk] at h; cases h
            | true =>
              rw [hk] at h
              have e1 := of_decide_eq_true hk
              have e2 := of_decide_eq_true h
              rw [← e1, ← e2]
          · intro h
            cases h
            rw [decide_eq_true rfl, decide_eq_true rfl]; rfl
        | _ => exact ⟨fun h => (by cases h), fun h => (by cases h)⟩
      show (sameV (.i .i64 z) a && sameL (l.map fun z => .i .i64 z) y) = true ↔ a :: y = .i .i64 z :: l.map fun z => .i .i64 z
      rw [Bool.and_eq_true, one, ih, List.cons.injEq]
theorem same_key (q : Nat → Int) (x : AV) : sameV (key8 q) x = true ↔ x = key8 q := by
  have h := same_ints [q 0, q 1, q 2, q 3, q 4, q 5, q 6, q 7]
  constructor
  · intro hx
    cases x with
    | agg l =>
      have := (h l).1 hx
      rw [this]; rfl
    | _ => cases hx
  · rintro rfl
    exact (h _).2 rfl
theorem key_inj {q r : Nat → Int} : key8 q = key8 r ↔ ∀ i, i < 8 → q i = r i := by
  constructor
  · intro h
    simp only [key8, AV.agg.injEq, List.cons.injEq, AV.i.injEq, true_and, and_true] at h
    intro i hi
    rcases i with _ | _ | _ | _ | _ | _ | _ | _ | i
    all_goals first | (exfalso; omega) | (obtain ⟨a0, a1, a2, a3, a4, a5, a6, a7⟩ := h; assumption)
  · intro h
    unfold key8
    rw [h 0 (by omega), h 1 (by omega), h 2 (by omega), h 3 (by omega), h 4 (by omega), h 5 (by omega), h 6 (by omega), h 7 (by omega)]
theorem mget_set1 {q r : Nat → Int} (v : AV) (h : key8 q = key8 r) : ∀ m : Mp, mget (key8 q) (mset (key8 r) v m) = some v
  | [] => by
    show cond (sameV (key8 q) (key8 r)) (some v) none = _
    rw [(same_key q _).2 h.symm]; rfl
  | (k, x) :: m => by
    unfold mset
    cases h1 : sameV (key8 r) k with
    | true =>
      show cond (sameV (key8 q) (key8 r)) (some v) _ = _
      rw [(same_key q _).2 h.symm]; rfl
    | false =>
      show cond (sameV (key8 q) k) (some x) (mget (key8 q) (mset (key8 r) v m)) = _
      rw [mget_set1 v h m, h, h1]; rfl
theorem mget_set2 {q r : Nat → Int} (v : AV) (h : key8 q ≠ key8 r) : ∀ m : Mp, mget (key8 q) (mset (key8 r) v m) = mget (key8 q) m
  | [] => by
    have : sameV (key8 q) (key8 r) = false := by
      rw [← Bool.not_eq_true]
      exact fun h' => h ((same_key q _).1 h').symm
    show cond (sameV (key8 q) (key8 r)) (some v) none = _
    rw [this]; rfl
  | (k, x) :: m => by
    have : sameV (key8 q) (key8 r) = false := by
      rw [← Bool.not_eq_true]
      exact fun h' => h ((same_key q _).1 h').symm
    unfold mset
    cases h1 : sameV (key8 r) k with
    | true =>
      show cond (sameV (key8 q) (key8 r)) (some v) (mget (key8 q) m) = cond (sameV (key8 q) k) (some x) (mget (key8 q) m)
      rw [(same_key r k).1 h1, this]; rfl
    | false =>
      show cond (sameV (key8 q) k) (some x) (mget (key8 q) (mset (key8 r) v m)) = cond (sameV (key8 q) k) (some x) (mget (key8 q) m)
      rw [mget_set2 v h m]
/-- A best share. -/
structure Good (da db : Int) (cs : List (List AV)) (q s : Nat → Int) : Prop where
  r : s 8 = (mq da db cs q : Int)
  p : (∃ i, i < cs.length ∧ 0 < q i) → (∀ i, i < cs.length → 0 ≤ s i ∧ s i ≤ q i) ∧ (∀ i, cs.length ≤ i → i < 8 → s i = 0) ∧ DD db cs s cs.length ≤ da + db ∧ (∃ i, i < cs.length ∧ 0 < s i) ∧ mq da db cs q = mq da db cs (fun i => q i - s i) + 1
structure VOK (cs : List (List AV)) (q : Nat → Int) : Prop where
  b : ∀ i, i < 8 → 0 ≤ q i ∧ q i ≤ 12
  z : ∀ i, cs.length ≤ i → i < 8 → q i = 0
  t : TT q cs.length ≤ 12
section
variable {da db : Int} {cs : List (List AV)}
theorem VOK.nn (hF : RFine da db cs) {q : Nat → Int} (h : VOK cs q) : ∀ i, i < cs.length → 0 ≤ q i := fun i hi => by
  have := hF.l
  exact (h.b i (by omega)).1
theorem Good.congr (hF : RFine da db cs) {q r s : Nat → Int} (hq : ∀ i, i < cs.length → 0 ≤ q i) (h : ∀ i, i < 8 → q i = r i) (hg : Good da db cs q s) : Good da db cs r s := by
  have hl := hF.l
  have hqr : ∀ i, i < cs.length → q i = r i := fun i hi => h i (by omega)
  refine ⟨by rw [hg.r, mq_congr hF hq hqr], fun ⟨i, hi, h0⟩ => ?_⟩
  obtain ⟨a, b, c, d, e⟩ := hg.p ⟨i, hi, by rw [hqr i hi]; exact h0⟩
  refine ⟨fun i hi => by rw [← hqr i hi]; exact a i hi, b, c, d, ?_⟩
  rw [← mq_congr hF hq hqr, e]
  congr 1
  exact mq_congr hF (fun i hi => by have := a i hi; omega) fun i hi => by rw [hqr i hi]
theorem Good.congr2 (hF : RFine da db cs) {q s t : Nat → Int} (h : ∀ i, i < 9 → s i = t i) (hg : Good da db cs q s) : Good da db cs q t := by
  have hl := hF.l
  refine ⟨by rw [← h 8 (by omega)]; exact hg.r, fun hx => ?_⟩
  obtain ⟨a, b, c, ⟨i, d1, d2⟩, e⟩ := hg.p hx
  refine ⟨fun i hi => by rw [← h i (by omega)]; exact a i hi, fun i h1 h2 => by rw [← h i (by omega)]; exact b i h1 h2, ?_, ⟨i, d1, by rw [← h i (by omega)]; exact d2⟩, ?_⟩
  · rw [← DD_congr (f := s) (g := t) fun i hi => h i (by omega)]
    exact c
  · rw [e]
    congr 1
    exact mq_congr hF (fun i hi => by have := a i hi; omega) fun i hi => by rw [h i (by omega)]
def MOK8 (da db : Int) (cs : List (List AV)) (m : Mp) : Prop := ∀ (q : Nat → Int) (v : AV), VOK cs q → mget (key8 q) m = some v → ∃ s, v = val9 s ∧ Good da db cs q s
theorem MOK8_set (hF : RFine da db cs) {q s : Nat → Int} {m : Mp} (hq : VOK cs q) (hg : Good da db cs q s) (hm : MOK8 da db cs m) : MOK8 da db cs (mset (key8 q) (val9 s) m) := by
  intro r v hr hv
  by_cases h : key8 r = key8 q
  · rw [mget_set1 _ h] at hv
    cases hv
    exact ⟨s, rfl, hg.congr hF (hq.nn hF) fun i hi => (key_inj.1 h i hi).symm⟩
  · rw [mget_set2 _ h] at hv
    exact hm r v hr hv
def FOK8 (K : LP) (da db : Int) (cs : List (List AV)) (N : Nat) : Prop := ∀ (q : Nat → Int) (m : Mp), VOK cs q → TT q cs.length < (N : Int) → MOK8 da db cs m → K.G da db cs da db cs (q 0) (q 1) (q 2) (q 3) (q 4) (q 5) (q 6) (q 7) m = true ∧ Good da db cs q (K.F da db cs da db cs (q 0) (q 1) (q 2) (q 3) (q 4) (q 5) (q 6) (q 7) m).1 ∧ MOK8 da db cs (K.F da db cs da db cs (q 0) (q 1) (q 2) (q 3) (q 4) (q 5) (q 6) (q 7) m).2
def GOK8 (K : LQ) (da db : Int) (cs : List (List AV)) (N : Nat) : Prop := ∀ (q : Nat → Int) (m : Mp), VOK cs q → TT q cs.length < (N : Int) → MOK8 da db cs m → K.G da db cs da db cs (q 0) (q 1) (q 2) (q 3) (q 4) (q 5) (q 6) (q 7) m = true ∧ Good da db cs q (K.F da db cs da db cs (q 0) (q 1) (q 2) (q 3) (q 4) (q 5) (q 6) (q 7) m).1 ∧ MOK8 da db cs (K.F da db cs da db cs (q 0) (q 1) (q 2) (q 3) (q 4) (q 5) (q 6) (q 7) m).2
theorem get8_ok (hF : RFine da db cs) {K : LP} {N : Nat} (hK : FOK8 K da db cs N) : GOK8 (lqOf K) da db cs N := by
  intro q m hq hn hm
  have hhas : mhas (AV.agg [AV.i IntKind.i64 (q 0), AV.i IntKind.i64 (q 1), AV.i IntKind.i64 (q 2), AV.i IntKind.i64 (q 3), AV.i IntKind.i64 (q 4), AV.i IntKind.i64 (q 5), AV.i IntKind.i64 (q 6), AV.i IntKind.i64 (q 7)]) m = (mget (key8 q) m).isSome := rfl
  have hget : mget (AV.agg [AV.i IntKind.i64 (q 0), AV.i IntKind.i64 (q 1), AV.i IntKind.i64 (q 2), AV.i IntKind.i64 (q 3), AV.i IntKind.i64 (q 4), AV.i IntKind.i64 (q 5), AV.i IntKind.i64 (q 6), AV.i IntKind.i64 (q 7)]) m = mget (key8 q) m := rfl
  cases he : mget (key8 q) m with
  | none =>
    obtain ⟨k1, k2, k3⟩ := hK q m hq hn hm
    have hG : LP.G da db cs da db cs (q 0) (q 1) (q 2) (q 3) (q 4) (q 5) (q 6) (q 7) m = true := k1
    refine ⟨?_, ?_, ?_⟩
    · show g76 da db cs da db cs (q 0) (q 1) (q 2) (q 3) (q 4) (q 5) (q 6) (q 7) m = true
      unfold g76 t76
      rw [hhas, he, hG]
      rfl
    · refine k2.congr2 hF fun i hi => ?_
      show _ = (match i with  | 0 => w76_0 da db cs da db cs (q 0) (q 1) (q 2) (q 3) (q 4) (q 5) (q 6) (q 7) m | 1 => w76_1 da db cs da db cs (q 0) (q 1) (q 2) (q 3) (q 4) (q 5) (q 6) (q 7) m | 2 => w76_2 da db cs da db cs (q 0) (q 1) (q 2) (q 3) (q 4) (q 5) (q 6) (q 7) m | 3 => w76_3 da db cs da db cs (q 0) (q 1) (q 2) (q 3) (q 4) (q 5) (q 6) (q 7) m | 4 => w76_4 da db cs da db cs (q 0) (q 1) (q 2) (q 3) (q 4) (q 5) (q 6) (q 7) m | 5 => w76_5 da db cs da db cs (q 0) (q 1) (q 2) (q 3) (q 4) (q 5) (q 6) (q 7) m | 6 => w76_6 da db cs da db cs (q 0) (q 1) (q 2) (q 3) (q 4) (q 5) (q 6) (q 7) m | 7 => w76_7 da db cs da db cs (q 0) (q 1) (q 2) (q 3) (q 4) (q 5) (q 6) (q 7) m | _ => w76_8 da db cs da db cs (q 0) (q 1) (q 2) (q 3) (q 4) (q 5) (q 6) (q 7) m)
      rcases i with _ | _ | _ | _ | _ | _ | _ | _ | _ | i
      · unfold w76_0 t76
        rw [hhas, he, hG]
        rfl
      · unfold w76_1 t76
        rw [hhas, he, hG]
        rfl
      · unfold w76_2 t76
        rw [hhas, he, hG]
        rfl
      · unfold w76_3 t76
        rw [hhas, he, hG]
        rfl
      · unfold w76_4 t76
        rw [hhas, he, hG]
        rfl
      · unfold w76_5 t76
        rw [hhas, he, hG]
        rfl
      · unfold w76_6 t76
        rw [hhas, he, hG]
        rfl
      · unfold w76_7 t76
        rw [hhas, he, hG]
        rfl
      · unfold w76_8 t76
        rw [hhas, he, hG]
        rfl
      · exfalso; omega
    · show MOK8 da db cs (w76_12 da db cs da db cs (q 0) (q 1) (q 2) (q 3) (q 4) (q 5) (q 6) (q 7) m)
      unfold w76_12 t76
      rw [hhas, he, hG]
      exact MOK8_set hF hq k2 k3
  | some v =>
    obtain ⟨s, rfl, hs⟩ := hm q v hq he
    refine ⟨?_, ?_, ?_⟩
    · show g76 da db cs da db cs (q 0) (q 1) (q 2) (q 3) (q 4) (q 5) (q 6) (q 7) m = true
      unfold g76 t76
      rw [hhas, he]
      rfl
    · refine hs.congr2 hF fun i hi => ?_
      show _ = (match i with  | 0 => w76_0 da db cs da db cs (q 0) (q 1) (q 2) (q 3) (q 4) (q 5) (q 6) (q 7) m | 1 => w76_1 da db cs da db cs (q 0) (q 1) (q 2) (q 3) (q 4) (q 5) (q 6) (q 7) m | 2 => w76_2 da db cs da db cs (q 0) (q 1) (q 2) (q 3) (q 4) (q 5) (q 6) (q 7) m | 3 => w76_3 da db cs da db cs (q 0) (q 1) (q 2) (q 3) (q 4) (q 5) (q 6) (q 7) m | 4 => w76_4 da db cs da db cs (q 0) (q 1) (q 2) (q 3) (q 4) (q 5) (q 6) (q 7) m | 5 => w76_5 da db cs da db cs (q 0) (q 1) (q 2) (q 3) (q 4) (q 5) (q 6) (q 7) m | 6 => w76_6 da db cs da db cs (q 0) (q 1) (q 2) (q 3) (q 4) (q 5) (q 6) (q 7) m | 7 => w76_7 da db cs da db cs (q 0) (q 1) (q 2) (q 3) (q 4) (q 5) (q 6) (q 7) m | _ => w76_8 da db cs da db cs (q 0) (q 1) (q 2) (q 3) (q 4) (q 5) (q 6) (q 7) m)
      rcases i with _ | _ | _ | _ | _ | _ | _ | _ | _ | i
      · unfold w76_0 t76
        rw [hhas, hget, he]
        rfl
      · unfold w76_1 t76
        rw [hhas, hget, he]
        rfl
      · unfold w76_2 t76
        rw [hhas, hget, he]
        rfl
      · unfold w76_3 t76
        rw [hhas, hget, he]
        rfl
      · unfold w76_4 t76
        rw [hhas, hget, he]
        rfl
      · unfold w76_5 t76
        rw [hhas, hget, he]
        rfl
      · unfold w76_6 t76
        rw [hhas, hget, he]
        rfl
      · unfold w76_7 t76
        rw [hhas, hget, he]
        rfl
      · unfold w76_8 t76
        rw [hhas, hget, he]
        rfl
      · exfalso; omega
    · show MOK8 da db cs (w76_12 da db cs da db cs (q 0) (q 1) (q 2) (q 3) (q 4) (q 5) (q 6) (q 7) m)
      unfold w76_12 t76
      rw [hhas, he]
      exact hm
/-- All patterns of a rod are tried. -/
theorem run72 [LQ] (hF : RFine da db cs) {N : Nat} (hK : ∀ (q : Nat → Int) (m : Mp), VOK cs q → TT q cs.length < (N : Int) → MOK8 da db cs m → LQ.G da db cs da db cs (q 0) (q 1) (q 2) (q 3) (q 4) (q 5) (q 6) (q 7) m = true ∧ Good da db cs q (LQ.F da db cs da db cs (q 0) (q 1) (q 2) (q 3) (q 4) (q 5) (q 6) (q 7) m).1 ∧ MOK8 da db cs (LQ.F da db cs da db cs (q 0) (q 1) (q 2) (q 3) (q 4) (q 5) (q 6) (q 7) m).2) {q : Nat → Int} {m : Mp} (hq : VOK cs q) (hn : TT q cs.length < ((N + 1 : Nat) : Int)) (hm : MOK8 da db cs m) {k : Nat} (hk : k < 8) (hqk : 0 < q k) :
    okP da db cs (q 0) (q 1) (q 2) (q 3) (q 4) (q 5) (q 6) (q 7) = true ∧ ∃ m' s, r72a da db cs (q 0) (q 1) (q 2) (q 3) (q 4) (q 5) (q 6) (q 7) da db cs (q 0) (q 1) (q 2) (q 3) (q 4) (q 5) (q 6) (q 7) 0 0 0 0 0 0 0 0 0 (k : Int) m 0 0 0 0 0 0 0 0 13 da db cs (q 0) (q 1) (q 2) (q 3) (q 4) (q 5) (q 6) (q 7) = some (.inl ⟨m', s 0, s 1, s 2, s 3, s 4, s 5, s 6, s 7, s 8⟩) ∧ MOK8 da db cs m' ∧ Good da db cs q s := by
  have hl := hF.l
  have hkn : k < cs.length := by
    rcases Nat.lt_or_ge k cs.length with h | h
    · exact h
    · have := hq.z k h hk
      omega
  have hnn := hq.nn hF
  obtain ⟨hok, hp1, hp2⟩ := pat_vec hF (q := q) fun i hi => hq.b i (by omega)
  refine ⟨hok, ?_⟩
  have ind := iterR_ind (step := fun (x : S72a) it => stp72a da db cs (q 0) (q 1) (q 2) (q 3) (q 4) (q 5) (q 6) (q 7) da db cs (q 0) (q 1) (q 2) (q 3) (q 4) (q 5) (q 6) (q 7) 0 0 0 0 0 0 0 0 0 (k : Int) x.m x.m12_0 x.m12_1 x.m12_2 x.m12_3 x.m12_4 x.m12_5 x.m12_6 x.m12_7 x.m12_8 it)
    (fun pre (x : S72a) => ∃ (m' : Mp) (s : Nat → Int), x = ⟨m', s 0, s 1, s 2, s 3, s 4, s 5, s 6, s 7, s 8⟩ ∧ MOK8 da db cs m' ∧ s 8 ≤ 13 ∧ (s 8 < 13 → (∀ i, i < cs.length → 0 ≤ s i ∧ s i ≤ q i) ∧ (∀ i, cs.length ≤ i → i < 8 → s i = 0) ∧ DD db cs s cs.length ≤ da + db ∧ 0 < s k ∧ s 8 = 1 + (mq da db cs (fun i => q i - s i) : Int)) ∧ ∀ it, it ∈ pre → fI it k ≠ 0 → s 8 ≤ 1 + (mq da db cs (fun i => q i - fI it i) : Int))
    (patX da db cs (q 0) (q 1) (q 2) (q 3) (q 4) (q 5) (q 6) (q 7)) [] ⟨m, 0, 0, 0, 0, 0, 0, 0, 0, 13⟩
    ⟨m, fun i => if i = 8 then 13 else 0, rfl, hm, by simp, fun h => by simp at h, fun it h => by cases h⟩
    (fun pre x it hit hI => by
      obtain ⟨m', s, rfl, i1, i2, i3, i4⟩ := hI
      obtain ⟨a1, a2, a3⟩ := hp1 it hit
      have hpb : ∀ i, i < 8 → 0 ≤ fI it i ∧ fI it i ≤ 12 := fun i hi => by
        rcases Nat.lt_or_ge i cs.length with h | h
        · have := a1 i h
          have := hq.b i hi
          omega
        · rw [a2 i h hi]; omega
      obtain ⟨st1, st2⟩ := step72 (fX it) q s hpb hq.b da db cs m' da db cs (q 0) (q 1) (q 2) (q 3) (q 4) (q 5) (q 6) (q 7) 0 0 0 0 0 0 0 0 0 hk (it := it) fun i _ => rfl
      by_cases hz : fI it k = 0
      · refine ⟨_, st1 hz, m', s, rfl, i1, i2, i3, fun it' hit' hne => ?_⟩
        rcases List.mem_append.1 hit' with h | h
        · exact i4 it' h hne
        · rw [List.mem_singleton] at h
          subst h
          exact absurd hz hne
      · have hpk : 0 < fI it k := by have := hpb k hk; omega
        have hsubT : TT (fun i => q i - fI it i) cs.length = TT q cs.length - TT (fX it) cs.length := TT_sub
        have htp := (TT_nn (q := fX it) (n := cs.length) fun i hi => (a1 i hi).1).2 k hkn
        have htp' : fI it k ≤ TT (fX it) cs.length := htp
        have hv : VOK cs (fun i => q i - fI it i) := by
          refine ⟨fun i hi => ?_, fun i h1 h2 => ?_, ?_⟩
          · have h1 := hq.b i hi
            have h2 := hpb i hi
            rcases Nat.lt_or_ge i cs.length with h | h
            · have := a1 i h
              show 0 ≤ q i - fI it i ∧ q i - fI it i ≤ 12
              omega
            · have e1 := a2 i h hi
              have e2 := hq.z i h hi
              show 0 ≤ q i - fI it i ∧ q i - fI it i ≤ 12
              omega
          · have e1 := a2 i h1 h2
            have e2 := hq.z i h1 h2
            show q i - fI it i = 0
            omega
          · have := hq.t
            omega
        obtain ⟨g1, g2, g3⟩ := hK (fun i => q i - fI it i) m' hv (by omega) i1
        have hmqb := (mq_ok hF (q := fun i => q i - fI it i) fun i hi => (hv.b i (by omega)).1).2.2
        have hvt := hv.t
        have g1 : LQ.G da db cs da db cs (q 0 - fI it 0) (q 1 - fI it 1) (q 2 - fI it 2) (q 3 - fI it 3) (q 4 - fI it 4) (q 5 - fI it 5) (q 6 - fI it 6) (q 7 - fI it 7) m' = true := g1
        have gr : (LQ.F da db cs da db cs (q 0 - fI it 0) (q 1 - fI it 1) (q 2 - fI it 2) (q 3 - fI it 3) (q 4 - fI it 4) (q 5 - fI it 5) (q 6 - fI it 6) (q 7 - fI it 7) m').1 8 = (mq da db cs (fun i => q i - fI it i) : Int) := g2.r
        have g3 : MOK8 da db cs (LQ.F da db cs da db cs (q 0 - fI it 0) (q 1 - fI it 1) (q 2 - fI it 2) (q 3 - fI it 3) (q 4 - fI it 4) (q 5 - fI it 5) (q 6 - fI it 6) (q 7 - fI it 7) m').2 := g3
        have st2 : stp72a da db cs (q 0) (q 1) (q 2) (q 3) (q 4) (q 5) (q 6) (q 7) da db cs (q 0) (q 1) (q 2) (q 3) (q 4) (q 5) (q 6) (q 7) 0 0 0 0 0 0 0 0 0 (k : Int) m' (s 0) (s 1) (s 2) (s 3) (s 4) (s 5) (s 6) (s 7) (s 8) it = (if 1 + (LQ.F da db cs da db cs (q 0 - fI it 0) (q 1 - fI it 1) (q 2 - fI it 2) (q 3 - fI it 3) (q 4 - fI it 4) (q 5 - fI it 5) (q 6 - fI it 6) (q 7 - fI it 7) m').1 8 < s 8 then .go ⟨(LQ.F da db cs da db cs (q 0 - fI it 0) (q 1 - fI it 1) (q 2 - fI it 2) (q 3 - fI it 3) (q 4 - fI it 4) (q 5 - fI it 5) (q 6 - fI it 6) (q 7 - fI it 7) m').2, fI it 0, fI it 1, fI it 2, fI it 3, fI it 4, fI it 5, fI it 6, fI it 7, 1 + (LQ.F da db cs da db cs (q 0 - fI it 0) (q 1 - fI it 1) (q 2 - fI it 2) (q 3 - fI it 3) (q 4 - fI it 4) (q 5 - fI it 5) (q 6 - fI it 6) (q 7 - fI it 7) m').1 8⟩ else .go ⟨(LQ.F da db cs da db cs (q 0 - fI it 0) (q 1 - fI it 1) (q 2 - fI it 2) (q 3 - fI it 3) (q 4 - fI it 4) (q 5 - fI it 5) (q 6 - fI it 6) (q 7 - fI it 7) m').2, s 0, s 1, s 2, s 3, s 4, s 5, s 6, s 7, s 8⟩) := st2 hz g1 (by have : (LQ.F da db cs da db cs (q 0 - fI it 0) (q 1 - fI it 1) (q 2 - fI it 2) (q 3 - fI it 3) (q 4 - fI it 4) (q 5 - fI it 5) (q 6 - fI it 6) (q 7 - fI it 7) m').1 8 = _ := gr; show -1000 ≤ (LQ.F da db cs da db cs (q 0 - fI it 0) (q 1 - fI it 1) (q 2 - fI it 2) (q 3 - fI it 3) (q 4 - fI it 4) (q 5 - fI it 5) (q 6 - fI it 6) (q 7 - fI it 7) m').1 8; omega) (by show (LQ.F da db cs da db cs (q 0 - fI it 0) (q 1 - fI it 1) (q 2 - fI it 2) (q 3 - fI it 3) (q 4 - fI it 4) (q 5 - fI it 5) (q 6 - fI it 6) (q 7 - fI it 7) m').1 8 ≤ 1000; omega)
        rw [gr] at st2
        by_cases hlt : 1 + (mq da db cs (fun i => q i - fI it i) : Int) < s 8
        · rw [if_pos hlt] at st2
          refine ⟨_, st2, _, fun i => if i = 8 then 1 + (mq da db cs (fun i => q i - fI it i) : Int) else fI it i, rfl, g3, ?_, fun _ => ⟨fun i hi => ?_, fun i h1 h2 => ?_, ?_, ?_, ?_⟩, fun it' hit' hne => ?_⟩
          · show 1 + (mq da db cs (fun i => q i - fI it i) : Int) ≤ 13
            omega
          · have := a1 i hi
            have h8 : ¬ i = 8 := by omega
            simp only [if_neg h8]
            exact this
          · have h8 : ¬ i = 8 := by omega
            simp only [if_neg h8]
            exact a2 i h1 h2
          · rw [DD_congr (g := fX it) fun i hi => if_neg (by omega)]
            exact a3
          · have h8 : ¬ k = 8 := by omega
            simp only [if_neg h8]
            exact hpk
          · show 1 + (mq da db cs (fun i => q i - fI it i) : Int) = _
            congr 2
            exact mq_congr hF (fun i hi => (hv.b i (by omega)).1) fun i hi => by
              have h8 : ¬ i = 8 := by omega
              simp only [if_neg h8]
          · show 1 + (mq da db cs (fun i => q i - fI it i) : Int) ≤ _
            rcases List.mem_append.1 hit' with h | h
            · have := i4 it' h hne
              omega
            · rw [List.mem_singleton] at h
              subst h
              exact Int.le_refl _
        · rw [if_neg hlt] at st2
          refine ⟨_, st2, _, s, rfl, g3, i2, i3, fun it' hit' hne => ?_⟩
          rcases List.mem_append.1 hit' with h | h
          · exact i4 it' h hne
          · rw [List.mem_singleton] at h
            subst h
            omega)
  obtain ⟨y, h1, m', s, rfl, j1, j2, j3, j4⟩ := ind
  refine ⟨m', s, h1, j1, ?_⟩
  obtain ⟨p, p1, p2, p3, p4⟩ := mq_ex hF hnn hkn hqk
  obtain ⟨it, hit, hpe⟩ := hp2 p p1 p2
  have h5 := j4 it (by simpa using hit) (by rw [hpe k hkn]; omega)
  have e5 : mq da db cs (fun i => q i - fI it i) = mq da db cs (fun i => q i - p i) := mq_congr hF (fun i hi => by rw [hpe i hi]; have := p1 i hi; omega) fun i hi => by rw [hpe i hi]
  have h6 := (mq_ok hF hnn).2.2
  have h7 := hq.t
  obtain ⟨c1, c2, c3, c4, c5⟩ := j3 (by omega)
  have h8 := mq_le hF c1 c3
  refine ⟨by omega, fun _ => ⟨c1, c2, c3, ⟨k, hkn, c4⟩, by omega⟩⟩
theorem t72_eq [LQ] (q : Nat → Int) (m : Mp) : t72 da db cs da db cs (q 0) (q 1) (q 2) (q 3) (q 4) (q 5) (q 6) (q 7) m = .cn (g73q (q 0) (q 1) (q 2) (q 3) (q 4) (q 5) (q 6) (q 7) && true) (.cn (decide (w73q_0 (q 0) (q 1) (q 2) (q 3) (q 4) (q 5) (q 6) (q 7) < 0)) (.lf (0, 0, 0, 0, 0, 0, 0, 0, 0, da, db, cs, m)) (.cn (okP da db cs (q 0) (q 1) (q 2) (q 3) (q 4) (q 5) (q 6) (q 7) && i72a_0 da db cs (q 0) (q 1) (q 2) (q 3) (q 4) (q 5) (q 6) (q 7) da db cs (q 0) (q 1) (q 2) (q 3) (q 4) (q 5) (q 6) (q 7) 0 0 0 0 0 0 0 0 0 (w73q_0 (q 0) (q 1) (q 2) (q 3) (q 4) (q 5) (q 6) (q 7)) m 0 0 0 0 0 0 0 0 13 da db cs (q 0) (q 1) (q 2) (q 3) (q 4) (q 5) (q 6) (q 7)) (.lf (v72a_0_m12_0 da db cs (q 0) (q 1) (q 2) (q 3) (q 4) (q 5) (q 6) (q 7) da db cs (q 0) (q 1) (q 2) (q 3) (q 4) (q 5) (q 6) (q 7) 0 0 0 0 0 0 0 0 0 (w73q_0 (q 0) (q 1) (q 2) (q 3) (q 4) (q 5) (q 6) (q 7)) m 0 0 0 0 0 0 0 0 13 da db cs (q 0) (q 1) (q 2) (q 3) (q 4) (q 5) (q 6) (q 7), v72a_0_m12_1 da db cs (q 0) (q 1) (q 2) (q 3) (q 4) (q 5) (q 6) (q 7) da db cs (q 0) (q 1) (q 2) (q 3) (q 4) (q 5) (q 6) (q 7) 0 0 0 0 0 0 0 0 0 (w73q_0 (q 0) (q 1) (q 2) (q 3) (q 4) (q 5) (q 6) (q 7)) m 0 0 0 0 0 0 0 0 13 da db cs (q 0) (q 1) (q 2) (q 3) (q 4) (q 5) (q 6) (q 7), v72a_0_m12_2 da db cs (q 0) (q 1) (q 2) (q 3) (q 4) (q 5) (q 6) (q 7) da db cs (q 0) (q 1) (q 2) (q 3) (q 4) (q 5) (q 6) (q 7) 0 0 0 0 0 0 0 0 0 (w73q_0 (q 0) (q 1) (q 2) (q 3) (q 4) (q 5) (q 6) (q 7)) m 0 0 0 0 0 0 0 0 13 da db cs (q 0) (q 1) (q 2) (q 3) (q 4) (q 5) (q 6) (q 7), v72a_0_m12_3 da db cs (q 0) (q 1) (q 2) (q 3) (q 4) (q 5) (q 6) (q 7) da db cs (q 0) (q 1) (q 2) (q 3) (q 4) (q 5) (q 6) (q 7) 0 0 0 0 0 0 0 0 0 (w73q_0 (q 0) (q 1) (q 2) (q 3) (q 4) (q 5) (q 6) (q 7)) m 0 0 0 0 0 0 0 0 13 da db cs (q 0) (q 1) (q 2) (q 3) (q 4) (q 5) (q 6) (q 7), v72a_0_m12_4 da db cs (q 0) (q 1) (q 2) (q 3) (q 4) (q 5) (q 6) (q 7) da db cs (q 0) (q 1) (q 2) (q 3) (q 4) (q 5) (q 6) (q 7) 0 0 0 0 0 0 0 0 0 (w73q_0 (q 0) (q 1) (q 2) (q 3) (q 4) (q 5) (q 6) (q 7)) m 0 0 0 0 0 0 0 0 13 da db cs (q 0) (q 1) (q 2) (q 3) (q 4) (q 5) (q 6) (q 7), v72a_0_m12_5 da db cs (q 0) (q 1) (q 2) (q 3) (q 4) (q 5) (q 6) (q 7) da db cs (q 0) (q 1) (q 2) (q 3) (q 4) (q 5) (q 6) (q 7) 0 0 0 0 0 0 0 0 0 (w73q_0 (q 0) (q 1) (q 2) (q 3) (q 4) (q 5) (q 6) (q 7)) m 0 0 0 0 0 0 0 0 13 da db cs (q 0) (q 1) (q 2) (q 3) (q 4) (q 5) (q 6) (q 7), v72a_0_m12_6 da db cs (q 0) (q 1) (q 2) (q 3) (q 4) (q 5) (q 6) (q 7) da db cs (q 0) (q 1) (q 2) (q 3) (q 4) (q 5) (q 6) (q 7) 0 0 0 0 0 0 0 0 0 (w73q_0 (q 0) (q 1) (q 2) (q 3) (q 4) (q 5) (q 6) (q 7)) m 0 0 0 0 0 0 0 0 13 da db cs (q 0) (q 1) (q 2) (q 3) (q 4) (q 5) (q 6) (q 7), v72a_0_m12_7 da db cs (q 0) (q 1) (q 2) (q 3) (q 4) (q 5) (q 6) (q 7) da db cs (q 0) (q 1) (q 2) (q 3) (q 4) (q 5) (q 6) (q 7) 0 0 0 0 0 0 0 0 0 (w73q_0 (q 0) (q 1) (q 2) (q 3) (q 4) (q 5) (q 6) (q 7)) m 0 0 0 0 0 0 0 0 13 da db cs (q 0) (q 1) (q 2) (q 3) (q 4) (q 5) (q 6) (q 7), v72a_0_m12_8 da db cs (q 0) (q 1) (q 2) (q 3) (q 4) (q 5) (q 6) (q 7) da db cs (q 0) (q 1) (q 2) (q 3) (q 4) (q 5) (q 6) (q 7) 0 0 0 0 0 0 0 0 0 (w73q_0 (q 0) (q 1) (q 2) (q 3) (q 4) (q 5) (q 6) (q 7)) m 0 0 0 0 0 0 0 0 13 da db cs (q 0) (q 1) (q 2) (q 3) (q 4) (q 5) (q 6) (q 7), da, db, cs, v72a_0_m da db cs (q 0) (q 1) (q 2) (q 3) (q 4) (q 5) (q 6) (q 7) da db cs (q 0) (q 1) (q 2) (q 3) (q 4) (q 5) (q 6) (q 7) 0 0 0 0 0 0 0 0 0 (w73q_0 (q 0) (q 1) (q 2) (q 3) (q 4) (q 5) (q 6) (q 7)) m 0 0 0 0 0 0 0 0 13 da db cs (q 0) (q 1) (q 2) (q 3) (q 4) (q 5) (q 6) (q 7))) .nn)) .nn := by
  obtain ⟨_, ⟨e1, e2, e3, e4, e5, e6, e7, e8⟩, _⟩ := idx_val q
  unfold t72
  rw [e1, e2, e3, e4, e5, e6, e7, e8]
theorem best_ok (hF : RFine da db cs) {K : LQ} {N : Nat} (hK : GOK8 K da db cs N) : FOK8 (lpOf K) da db cs (N + 1) := by
  intro q m hq hn hm
  have hl := hF.l
  obtain ⟨x1, _, x2⟩ := idx_val q
  rcases x2 with ⟨k, k1, k2, k3⟩ | ⟨k1, k2⟩
  · obtain ⟨r1, m', s, r2, r3, r4⟩ := run72 hF hK hq hn hm k1 k2
    have d0 : decide ((k : Int) < 0) = false := decide_eq_false (by omega)
    refine ⟨?_, ?_, ?_⟩
    · show g72 da db cs da db cs (q 0) (q 1) (q 2) (q 3) (q 4) (q 5) (q 6) (q 7) m = true
      unfold g72
      rw [t72_eq, x1, k3, d0, r1]
      unfold i72a_0
      rw [r2]
      rfl
    · refine r4.congr2 hF fun i hi => ?_
      show _ = (match i with  | 0 => w72_0 da db cs da db cs (q 0) (q 1) (q 2) (q 3) (q 4) (q 5) (q 6) (q 7) m | 1 => w72_1 da db cs da db cs (q 0) (q 1) (q 2) (q 3) (q 4) (q 5) (q 6) (q 7) m | 2 => w72_2 da db cs da db cs (q 0) (q 1) (q 2) (q 3) (q 4) (q 5) (q 6) (q 7) m | 3 => w72_3 da db cs da db cs (q 0) (q 1) (q 2) (q 3) (q 4) (q 5) (q 6) (q 7) m | 4 => w72_4 da db cs da db cs (q 0) (q 1) (q 2) (q 3) (q 4) (q 5) (q 6) (q 7) m | 5 => w72_5 da db cs da db cs (q 0) (q 1) (q 2) (q 3) (q 4) (q 5) (q 6) (q 7) m | 6 => w72_6 da db cs da db cs (q 0) (q 1) (q 2) (q 3) (q 4) (q 5) (q 6) (q 7) m | 7 => w72_7 da db cs da db cs (q 0) (q 1) (q 2) (q 3) (q 4) (q 5) (q 6) (q 7) m | _ => w72_8 da db cs da db cs (q 0) (q 1) (q 2) (q 3) (q 4) (q 5) (q 6) (q 7) m)
      rcases i with _ | _ | _ | _ | _ | _ | _ | _ | _ | i
      · unfold w72_0
        rw [t72_eq, x1, k3, d0, r1]
        unfold i72a_0 v72a_0_m12_0
        rw [r2]
        rfl
      · unfold w72_1
        rw [t72_eq, x1, k3, d0, r1]
        unfold i72a_0 v72a_0_m12_1
        rw [r2]
        rfl
      · unfold w72_2
        rw [t72_eq, x1, k3, d0, r1]
        unfold i72a_0 v72a_0_m12_2
        rw [r2]
        rfl
      · unfold w72_3
        rw [t72_eq, x1, k3, d0, r1]
        unfold i72a_0 v72a_0_m12_3
        rw [r2]
        rfl
      · unfold w72_4
        rw [t72_eq, x1, k3, d0, r1]
        unfold i72a_0 v72a_0_m12_4
        rw [r2]
        rfl
      · unfold w72_5
        rw [t72_eq, x1, k3, d0, r1]
        unfold i72a_0 v72a_0_m12_5
        rw [r2]
        rfl
      · unfold w72_6
        rw [t72_eq, x1, k3, d0, r1]
        unfold i72a_0 v72a_0_m12_6
        rw [r2]
        rfl
      · unfold w72_7
        rw [t72_eq, x1, k3, d0, r1]
        unfold i72a_0 v72a_0_m12_7
        rw [r2]
        rfl
      · unfold w72_8
        rw [t72_eq, x1, k3, d0, r1]
        unfold i72a_0 v72a_0_m12_8
        rw [r2]
        rfl
      · exfalso; omega
    · show MOK8 da db cs (w72_12 da db cs da db cs (q 0) (q 1) (q 2) (q 3) (q 4) (q 5) (q 6) (q 7) m)
      unfold w72_12
      rw [t72_eq, x1, k3, d0, r1]
      unfold i72a_0 v72a_0_m
      rw [r2]
      exact r3
  · have hz : ∀ i, i < cs.length → q i = 0 := fun i hi => by
      have := k1 i (by omega)
      have := hq.b i (by omega)
      omega
    refine ⟨?_, ?_, ?_⟩
    · show g72 da db cs da db cs (q 0) (q 1) (q 2) (q 3) (q 4) (q 5) (q 6) (q 7) m = true
      unfold g72
      rw [t72_eq, x1, k2]
      rfl
    · have hg : Good da db cs q (fun _ => 0) := ⟨by rw [mq_zero hF hz]; rfl, fun ⟨i, hi, h⟩ => by rw [hz i hi] at h; omega⟩
      refine hg.congr2 hF fun i hi => ?_
      show _ = (match i with  | 0 => w72_0 da db cs da db cs (q 0) (q 1) (q 2) (q 3) (q 4) (q 5) (q 6) (q 7) m | 1 => w72_1 da db cs da db cs (q 0) (q 1) (q 2) (q 3) (q 4) (q 5) (q 6) (q 7) m | 2 => w72_2 da db cs da db cs (q 0) (q 1) (q 2) (q 3) (q 4) (q 5) (q 6) (q 7) m | 3 => w72_3 da db cs da db cs (q 0) (q 1) (q 2) (q 3) (q 4) (q 5) (q 6) (q 7) m | 4 => w72_4 da db cs da db cs (q 0) (q 1) (q 2) (q 3) (q 4) (q 5) (q 6) (q 7) m | 5 => w72_5 da db cs da db cs (q 0) (q 1) (q 2) (q 3) (q 4) (q 5) (q 6) (q 7) m | 6 => w72_6 da db cs da db cs (q 0) (q 1) (q 2) (q 3) (q 4) (q 5) (q 6) (q 7) m | 7 => w72_7 da db cs da db cs (q 0) (q 1) (q 2) (q 3) (q 4) (q 5) (q 6) (q 7) m | _ => w72_8 da db cs da db cs (q 0) (q 1) (q 2) (q 3) (q 4) (q 5) (q 6) (q 7) m)
      rcases i with _ | _ | _ | _ | _ | _ | _ | _ | _ | i
      · unfold w72_0
        rw [t72_eq, x1, k2]
        rfl
      · unfold w72_1
        rw [t72_eq, x1, k2]
        rfl
      · unfold w72_2
        rw [t72_eq, x1, k2]
        rfl
      · unfold w72_3
        rw [t72_eq, x1, k2]
        rfl
      · unfold w72_4
        rw [t72_eq, x1, k2]
        rfl
      · unfold w72_5
        rw [t72_eq, x1, k2]
        rfl
      · unfold w72_6
        rw [t72_eq, x1, k2]
        rfl
      · unfold w72_7
        rw [t72_eq, x1, k2]
        rfl
      · unfold w72_8
        rw [t72_eq, x1, k2]
        rfl
      · exfalso; omega
    · show MOK8 da db cs (w72_12 da db cs da db cs (q 0) (q 1) (q 2) (q 3) (q 4) (q 5) (q 6) (q 7) m)
      unfold w72_12
      rw [t72_eq, x1, k2]
      exact hm
theorem lpN_ok (hF : RFine da db cs) : ∀ N, FOK8 (lpN N) da db cs N
  | 0 => fun q m hq hn => by
    have := (TT_nn (q := q) (n := cs.length) (hq.nn hF)).1
    omega
  | N + 1 => best_ok hF (get8_ok hF (lpN_ok hF N))
end
noncomputable instance lqE : LQ := lqOf (lpN 100)
theorem lqE_ok {da db : Int} {cs : List (List AV)} (hF : RFine da db cs) : GOK8 lqE da db cs 100 := get8_ok hF (lpN_ok hF 100)
end Go.Proofs.Ytgifjphinkbcaaa

set_option maxRecDepth 100000
set_option linter.unusedVariables false
namespace Go.Proofs.Ytgifjphinkbcaaa
open Go Go.Ev
noncomputable def SPn : Ev.Spec := insS 57 e57 (S0)
theorem SPn_ok : SpecOK Try.prog SPn := insS_ok e57_ok (S0_ok)
end Go.Proofs.Ytgifjphinkbcaaa

set_option maxRecDepth 100000
set_option maxHeartbeats 0
set_option linter.unusedVariables false
namespace Go.Proofs.Ytgifjphinkbcaaa
open Go Go.Ev

/-! ### Planned -/
noncomputable def c46 : Code := match Try.f46.body with | some c => c | _ => .skip
noncomputable def lp46a : Code := loopAt c46 [true, true, false, true, false]
noncomputable def s46a (pl : List (List AV)) (da : Int) (db : Int) (cs : List (List AV)) (t4 : Bool) (t5 : Nat) (t6 : Int) (m5 : List (List AV)) : St :=
  { t := [(1, .rs 36 pl), (2, .rp [.int .i64, .int .i64, .sl 64] [.i .i64 da, .i .i64 db, .rs 64 cs] 0), (4, .b t4), (5, .sl 5 0 t5), (6, .i .i64 t6)], m := [(0, .dead), (1, .dead), (2, .dead), (3, .dead), (4, .dead), (5, .row 3 m5)], nx := 6, nt := 109 }
noncomputable def lp46aa : Code := loopAt c46 [true, true, false, true, false, false, true, false, false, true, false, true, false]
noncomputable def s46aa (pl : List (List AV)) (da : Int) (db : Int) (cs : List (List AV)) (t4 : Bool) (t5 : Nat) (t6 : Int) (t7 : Int) (t8 : Int) (m5 : List (List AV)) : St :=
  { t := [(1, .rs 36 pl), (2, .rp [.int .i64, .int .i64, .sl 64] [.i .i64 da, .i .i64 db, .rs 64 cs] 0), (4, .b t4), (5, .sl 5 0 t5), (6, .i .i64 t6), (7, .i .i64 t7), (8, .i .i64 t8)], m := [(0, .dead), (1, .dead), (2, .dead), (3, .dead), (4, .dead), (5, .row 3 m5)], nx := 6, nt := 109 }
structure S46aa where
  t7 : Int
  t8 : Int
  m5 : List (List AV)
inductive T46aa where
  | x0 (t4' : Bool) (t7 : Int) (t8 : Int) (m5 : List (List AV))
  | x1 (t7 : Int) (t8 : Int) (m5 : List (List AV))
noncomputable def stp46aa (pl : List (List AV)) (da : Int) (db : Int) (cs : List (List AV)) (t4 : Bool) (t5 : Nat) (t6 : Int) (t7 : Int) (t8 : Int) (m5 : List (List AV)) : Lp S46aa T46aa :=
  cond (inb t6 pl.length) (cond (decide (t8 < (↑(fE (pl.getD t6.toNat []) 0).length : Int))) (cond (inb t6 pl.length) (cond (inb t8 (fE (pl.getD t6.toNat []) 0).length) (cond (g57 (fI ((fE (pl.getD t6.toNat []) 0).getD t8.toNat []) 0) 0 (IntKind.i64.wrap ((↑cs.length : Int) - 1))) (cond (!w57_0 (fI ((fE (pl.getD t6.toNat []) 0).getD t8.toNat []) 0) 0 (IntKind.i64.wrap ((↑cs.length : Int) - 1))) (.out (.x0 false t7 t8 m5)) (cond (decide (t8 > 0)) (cond (inb t6 pl.length) (cond (inb (IntKind.i64.wrap (t8 - 1)) (fE (pl.getD t6.toNat []) 0).length) (cond (decide (fI ((fE (pl.getD t6.toNat []) 0).getD (IntKind.i64.wrap (t8 - 1)).toNat []) 0 > fI ((fE (pl.getD t6.toNat []) 0).getD t8.toNat []) 0)) (.out (.x0 false t7 t8 m5)) (cond (inb (fI ((fE (pl.getD t6.toNat []) 0).getD t8.toNat []) 0) t5 && (0 + (fI ((fE (pl.getD t6.toNat []) 0).getD t8.toNat []) 0).toNat).blt m5.length) (cond ((0 + (fI ((fE (pl.getD t6.toNat []) 0).getD t8.toNat []) 0).toNat).blt m5.length) (cond (inb (fI ((fE (pl.getD t6.toNat []) 0).getD t8.toNat []) 0) t5 && (0 + (fI ((fE (pl.getD t6.toNat []) 0).getD t8.toNat []) 0).toNat).blt m5.length) (cond ((0 + (fI ((fE (pl.getD t6.toNat []) 0).getD t8.toNat []) 0).toNat).blt m5.length) (cond (inb (fI ((fE (pl.getD t6.toNat []) 0).getD t8.toNat []) 0) cs.length) (.go ⟨IntKind.i64.wrap (IntKind.i64.wrap (t7 + fI (cs.getD (fI ((fE (pl.getD t6.toNat []) 0).getD t8.toNat []) 0).toNat []) 0) + db), IntKind.i64.wrap (t8 + 1), m5.set (0 + (fI ((fE (pl.getD t6.toNat []) 0).getD t8.toNat []) 0).toNat) (setCs (m5.getD (0 + (fI ((fE (pl.getD t6.toNat []) 0).getD t8.toNat []) 0).toNat) []) 0 [AV.i IntKind.i64 (IntKind.i64.wrap (fI (m5.getD (0 + (fI ((fE (pl.getD t6.toNat []) 0).getD t8.toNat []) 0).toNat) []) 0 + 1))])⟩) (.bad)) (.bad)) (.bad)) (.bad)) (.bad))) (.bad)) (.bad)) (cond (inb (fI ((fE (pl.getD t6.toNat []) 0).getD t8.toNat []) 0) t5 && (0 + (fI ((fE (pl.getD t6.toNat []) 0).getD t8.toNat []) 0).toNat).blt m5.length) (cond ((0 + (fI ((fE (pl.getD t6.toNat []) 0).getD t8.toNat []) 0).toNat).blt m5.length) (cond (inb (fI ((fE (pl.getD t6.toNat []) 0).getD t8.toNat []) 0) t5 && (0 + (fI ((fE (pl.getD t6.toNat []) 0).getD t8.toNat []) 0).toNat).blt m5.length) (cond ((0 + (fI ((fE (pl.getD t6.toNat []) 0).getD t8.toNat []) 0).toNat).blt m5.length) (cond (inb (fI ((fE (pl.getD t6.toNat []) 0).getD t8.toNat []) 0) cs.length) (.go ⟨IntKind.i64.wrap (IntKind.i64.wrap (t7 + fI (cs.getD (fI ((fE (pl.getD t6.toNat []) 0).getD t8.toNat []) 0).toNat []) 0) + db), IntKind.i64.wrap (t8 + 1), m5.set (0 + (fI ((fE (pl.getD t6.toNat []) 0).getD t8.toNat []) 0).toNat) (setCs (m5.getD (0 + (fI ((fE (pl.getD t6.toNat []) 0).getD t8.toNat []) 0).toNat) []) 0 [AV.i IntKind.i64 (IntKind.i64.wrap (fI (m5.getD (0 + (fI ((fE (pl.getD t6.toNat []) 0).getD t8.toNat []) 0).toNat) []) 0 + 1))])⟩) (.bad)) (.bad)) (.bad)) (.bad)) (.bad)))) (.bad)) (.bad)) (.bad)) (.out (.x1 t7 t8 m5))) (.bad)
noncomputable def o46aa_0 (pl : List (List AV)) (da : Int) (db : Int) (cs : List (List AV)) (t4 : Bool) (t5 : Nat) (t6 : Int) (t4' : Bool) (t7 : Int) (t8 : Int) (m5 : List (List AV)) : St :=
  { t := [(1, .rs 36 pl), (2, .rp [.int .i64, .int .i64, .sl 64] [.i .i64 da, .i .i64 db, .rs 64 cs] 0), (4, .b t4'), (5, .sl 5 0 t5), (6, .i .i64 t6), (7, .i .i64 t7), (8, .i .i64 t8)], m := [(0, .dead), (1, .dead), (2, .dead), (3, .dead), (4, .dead), (5, .row 3 m5)], nx := 6, nt := 109 }
noncomputable def o46aa_1 (pl : List (List AV)) (da : Int) (db : Int) (cs : List (List AV)) (t4 : Bool) (t5 : Nat) (t6 : Int) (t7 : Int) (t8 : Int) (m5 : List (List AV)) : St :=
  { t := [(1, .rs 36 pl), (2, .rp [.int .i64, .int .i64, .sl 64] [.i .i64 da, .i .i64 db, .rs 64 cs] 0), (4, .b t4), (5, .sl 5 0 t5), (6, .i .i64 t6), (7, .i .i64 t7), (8, .i .i64 t8)], m := [(0, .dead), (1, .dead), (2, .dead), (3, .dead), (4, .dead), (5, .row 3 m5)], nx := 6, nt := 109 }
noncomputable def ou46aa (pl : List (List AV)) (da : Int) (db : Int) (cs : List (List AV)) (t4 : Bool) (t5 : Nat) (t6 : Int) : T46aa → Ex × St
  | .x0 t4' t7 t8 m5 => (.ret, o46aa_0 pl da db cs t4 t5 t6 t4' t7 t8 m5)
  | .x1 t7 t8 m5 => (.ext 2, o46aa_1 pl da db cs t4 t5 t6 t7 t8 m5)
noncomputable def r46aa (pl : List (List AV)) (da : Int) (db : Int) (cs : List (List AV)) (t4 : Bool) (t5 : Nat) (t6 : Int) (t7 : Int) (t8 : Int) (m5 : List (List AV)) : Option T46aa := run (fun x => stp46aa pl da db cs t4 t5 t6 x.t7 x.t8 x.m5) (⟨t7, t8, m5⟩ : S46aa)
noncomputable def i46aa_0 (pl : List (List AV)) (da : Int) (db : Int) (cs : List (List AV)) (t4 : Bool) (t5 : Nat) (t6 : Int) (t7 : Int) (t8 : Int) (m5 : List (List AV)) : Bool := match r46aa pl da db cs t4 t5 t6 t7 t8 m5 with
  | some (.x0 _ _ _ _) => true
  | _ => false
noncomputable def v46aa_0_t4' (pl : List (List AV)) (da : Int) (db : Int) (cs : List (List AV)) (t4 : Bool) (t5 : Nat) (t6 : Int) (t7 : Int) (t8 : Int) (m5 : List (List AV)) : Bool := match r46aa pl da db cs t4 t5 t6 t7 t8 m5 with
  | some (.x0 t4' _ _ _) => t4'
  | _ => default
noncomputable def v46aa_0_t7 (pl : List (List AV)) (da : Int) (db : Int) (cs : List (List AV)) (t4 : Bool) (t5 : Nat) (t6 : Int) (t7 : Int) (t8 : Int) (m5 : List (List AV)) : Int := match r46aa pl da db cs t4 t5 t6 t7 t8 m5 with
  | some (.x0 _ t7 _ _) => t7
  | _ => default
noncomputable def v46aa_0_t8 (pl : List (List AV)) (da : Int) (db : Int) (cs : List (List AV)) (t4 : Bool) (t5 : Nat) (t6 : Int) (t7 : Int) (t8 : Int) (m5 : List (List AV)) : Int := match r46aa pl da db cs t4 t5 t6 t7 t8 m5 with
  | some (.x0 _ _ t8 _) => t8
  | _ => default
noncomputable def v46aa_0_m5 (pl : List (List AV)) (da : Int) (db : Int) (cs : List (List AV)) (t4 : Bool) (t5 : Nat) (t6 : Int) (t7 : Int) (t8 : Int) (m5 : List (List AV)) : List (List AV) := match r46aa pl da db cs t4 t5 t6 t7 t8 m5 with
  | some (.x0 _ _ _ m5) => m5
  | _ => default
noncomputable def i46aa_1 (pl : List (List AV)) (da : Int) (db : Int) (cs : List (List AV)) (t4 : Bool) (t5 : Nat) (t6 : Int) (t7 : Int) (t8 : Int) (m5 : List (List AV)) : Bool := match r46aa pl da db cs t4 t5 t6 t7 t8 m5 with
  | some (.x1 _ _ _) => true
  | _ => false
noncomputable def v46aa_1_t7 (pl : List (List AV)) (da : Int) (db : Int) (cs : List (List AV)) (t4 : Bool) (t5 : Nat) (t6 : Int) (t7 : Int) (t8 : Int) (m5 : List (List AV)) : Int := match r46aa pl da db cs t4 t5 t6 t7 t8 m5 with
  | some (.x1 t7 _ _) => t7
  | _ => default
noncomputable def v46aa_1_t8 (pl : List (List AV)) (da : Int) (db : Int) (cs : List (List AV)) (t4 : Bool) (t5 : Nat) (t6 : Int) (t7 : Int) (t8 : Int) (m5 : List (List AV)) : Int := match r46aa pl da db cs t4 t5 t6 t7 t8 m5 with
  | some (.x1 _ t8 _) => t8
  | _ => default
noncomputable def v46aa_1_m5 (pl : List (List AV)) (da : Int) (db : Int) (cs : List (List AV)) (t4 : Bool) (t5 : Nat) (t6 : Int) (t7 : Int) (t8 : Int) (m5 : List (List AV)) : List (List AV) := match r46aa pl da db cs t4 t5 t6 t7 t8 m5 with
  | some (.x1 _ _ m5) => m5
  | _ => default
noncomputable def l46aa (st : St) : Option (List (Bool × Ex × St)) := match normW Try.prog [(1, none), (2, none), (4, none), (5, none), (6, none), (7, none), (8, none)] 6 st with
  | some ([.rs 36 pl, .rp [.int .i64, .int .i64, .sl 64] [.i .i64 da, .i .i64 db, .rs 64 cs] 0, .b t4, .sl 5 0 t5, .i .i64 t6, .i .i64 t7, .i .i64 t8], [(0, .dead), (1, .dead), (2, .dead), (3, .dead), (4, .dead), (5, .row 3 m5)], 6, 109) => some [(i46aa_0 pl da db cs t4 t5 t6 t7 t8 m5, .ret, o46aa_0 pl da db cs t4 t5 t6 (v46aa_0_t4' pl da db cs t4 t5 t6 t7 t8 m5) (v46aa_0_t7 pl da db cs t4 t5 t6 t7 t8 m5) (v46aa_0_t8 pl da db cs t4 t5 t6 t7 t8 m5) (v46aa_0_m5 pl da db cs t4 t5 t6 t7 t8 m5)), (i46aa_1 pl da db cs t4 t5 t6 t7 t8 m5, .ext 2, o46aa_1 pl da db cs t4 t5 t6 (v46aa_1_t7 pl da db cs t4 t5 t6 t7 t8 m5) (v46aa_1_t8 pl da db cs t4 t5 t6 t7 t8 m5) (v46aa_1_m5 pl da db cs t4 t5 t6 t7 t8 m5))]
  | _ => none
structure S46a where
  t6 : Int
  m5 : List (List AV)
inductive T46a where
  | x0 (t4' : Bool) (t6 : Int) (m5 : List (List AV))
  | x1 (t6 : Int) (m5 : List (List AV))
noncomputable def stp46a (pl : List (List AV)) (da : Int) (db : Int) (cs : List (List AV)) (t4 : Bool) (t5 : Nat) (t6 : Int) (m5 : List (List AV)) : Lp S46a T46a :=
  cond (decide (t6 < (↑pl.length : Int))) (cond (i46aa_0 pl da db cs t4 t5 t6 0 0 m5) (.out (.x0 (v46aa_0_t4' pl da db cs t4 t5 t6 0 0 m5) t6 (v46aa_0_m5 pl da db cs t4 t5 t6 0 0 m5))) (cond (i46aa_1 pl da db cs t4 t5 t6 0 0 m5) (cond (inb t6 pl.length) (cond ((↑(fE (pl.getD t6.toNat []) 0).length : Int) == 0) (.out (.x0 false t6 (v46aa_1_m5 pl da db cs t4 t5 t6 0 0 m5))) (cond (decide (v46aa_1_t7 pl da db cs t4 t5 t6 0 0 m5 > IntKind.i64.wrap (da + db))) (.out (.x0 false t6 (v46aa_1_m5 pl da db cs t4 t5 t6 0 0 m5))) (.go ⟨IntKind.i64.wrap (t6 + 1), v46aa_1_m5 pl da db cs t4 t5 t6 0 0 m5⟩))) (.bad)) (.bad))) (.out (.x1 t6 m5))
noncomputable def o46a_0 (pl : List (List AV)) (da : Int) (db : Int) (cs : List (List AV)) (t4 : Bool) (t5 : Nat) (t4' : Bool) (t6 : Int) (m5 : List (List AV)) : St :=
  { t := [(1, .rs 36 pl), (2, .rp [.int .i64, .int .i64, .sl 64] [.i .i64 da, .i .i64 db, .rs 64 cs] 0), (4, .b t4'), (5, .sl 5 0 t5), (6, .i .i64 t6)], m := [(0, .dead), (1, .dead), (2, .dead), (3, .dead), (4, .dead), (5, .row 3 m5)], nx := 6, nt := 109 }
noncomputable def o46a_1 (pl : List (List AV)) (da : Int) (db : Int) (cs : List (List AV)) (t4 : Bool) (t5 : Nat) (t6 : Int) (m5 : List (List AV)) : St :=
  { t := [(1, .rs 36 pl), (2, .rp [.int .i64, .int .i64, .sl 64] [.i .i64 da, .i .i64 db, .rs 64 cs] 0), (4, .b t4), (5, .sl 5 0 t5), (6, .i .i64 t6)], m := [(0, .dead), (1, .dead), (2, .dead), (3, .dead), (4, .dead), (5, .row 3 m5)], nx := 6, nt := 109 }
noncomputable def ou46a (pl : List (List AV)) (da : Int) (db : Int) (cs : List (List AV)) (t4 : Bool) (t5 : Nat) : T46a → Ex × St
  | .x0 t4' t6 m5 => (.ret, o46a_0 pl da db cs t4 t5 t4' t6 m5)
  | .x1 t6 m5 => (.ext 0, o46a_1 pl da db cs t4 t5 t6 m5)
noncomputable def r46a (pl : List (List AV)) (da : Int) (db : Int) (cs : List (List AV)) (t4 : Bool) (t5 : Nat) (t6 : Int) (m5 : List (List AV)) : Option T46a := run (fun x => stp46a pl da db cs t4 t5 x.t6 x.m5) (⟨t6, m5⟩ : S46a)
noncomputable def i46a_0 (pl : List (List AV)) (da : Int) (db : Int) (cs : List (List AV)) (t4 : Bool) (t5 : Nat) (t6 : Int) (m5 : List (List AV)) : Bool := match r46a pl da db cs t4 t5 t6 m5 with
  | some (.x0 _ _ _) => true
  | _ => false
noncomputable def v46a_0_t4' (pl : List (List AV)) (da : Int) (db : Int) (cs : List (List AV)) (t4 : Bool) (t5 : Nat) (t6 : Int) (m5 : List (List AV)) : Bool := match r46a pl da db cs t4 t5 t6 m5 with
  | some (.x0 t4' _ _) => t4'
  | _ => default
noncomputable def v46a_0_t6 (pl : List (List AV)) (da : Int) (db : Int) (cs : List (List AV)) (t4 : Bool) (t5 : Nat) (t6 : Int) (m5 : List (List AV)) : Int := match r46a pl da db cs t4 t5 t6 m5 with
  | some (.x0 _ t6 _) => t6
  | _ => default
noncomputable def v46a_0_m5 (pl : List (List AV)) (da : Int) (db : Int) (cs : List (List AV)) (t4 : Bool) (t5 : Nat) (t6 : Int) (m5 : List (List AV)) : List (List AV) := match r46a pl da db cs t4 t5 t6 m5 with
  | some (.x0 _ _ m5) => m5
  | _ => default
noncomputable def i46a_1 (pl : List (List AV)) (da : Int) (db : Int) (cs : List (List AV)) (t4 : Bool) (t5 : Nat) (t6 : Int) (m5 : List (List AV)) : Bool := match r46a pl da db cs t4 t5 t6 m5 with
  | some (.x1 _ _) => true
  | _ => false
noncomputable def v46a_1_t6 (pl : List (List AV)) (da : Int) (db : Int) (cs : List (List AV)) (t4 : Bool) (t5 : Nat) (t6 : Int) (m5 : List (List AV)) : Int := match r46a pl da db cs t4 t5 t6 m5 with
  | some (.x1 t6 _) => t6
  | _ => default
noncomputable def v46a_1_m5 (pl : List (List AV)) (da : Int) (db : Int) (cs : List (List AV)) (t4 : Bool) (t5 : Nat) (t6 : Int) (m5 : List (List AV)) : List (List AV) := match r46a pl da db cs t4 t5 t6 m5 with
  | some (.x1 _ m5) => m5
  | _ => default
noncomputable def l46a (st : St) : Option (List (Bool × Ex × St)) := match normW Try.prog [(1, none), (2, none), (4, none), (5, none), (6, none)] 6 st with
  | some ([.rs 36 pl, .rp [.int .i64, .int .i64, .sl 64] [.i .i64 da, .i .i64 db, .rs 64 cs] 0, .b t4, .sl 5 0 t5, .i .i64 t6], [(0, .dead), (1, .dead), (2, .dead), (3, .dead), (4, .dead), (5, .row 3 m5)], 6, 109) => some [(i46a_0 pl da db cs t4 t5 t6 m5, .ret, o46a_0 pl da db cs t4 t5 (v46a_0_t4' pl da db cs t4 t5 t6 m5) (v46a_0_t6 pl da db cs t4 t5 t6 m5) (v46a_0_m5 pl da db cs t4 t5 t6 m5)), (i46a_1 pl da db cs t4 t5 t6 m5, .ext 0, o46a_1 pl da db cs t4 t5 (v46a_1_t6 pl da db cs t4 t5 t6 m5) (v46a_1_m5 pl da db cs t4 t5 t6 m5))]
  | _ => none
noncomputable def lp46b : Code := loopAt c46 [true, true, true, false, true, false]
noncomputable def s46b (da : Int) (db : Int) (cs : List (List AV)) (t4 : Bool) (t5 : Nat) (t10 : Int) (m5 : List (List AV)) : St :=
  { t := [(2, .rp [.int .i64, .int .i64, .sl 64] [.i .i64 da, .i .i64 db, .rs 64 cs] 0), (4, .b t4), (5, .sl 5 0 t5), (10, .i .i64 t10)], m := [(0, .dead), (1, .dead), (2, .dead), (3, .dead), (4, .dead), (5, .row 3 m5)], nx := 6, nt := 109 }
structure S46b where
  t10 : Int
inductive T46b where
  | x0 (t4' : Bool) (t10 : Int)
  | x1 (t10 : Int)
noncomputable def stp46b (da : Int) (db : Int) (cs : List (List AV)) (t4 : Bool) (t5 : Nat) (m5 : List (List AV)) (t10 : Int) : Lp S46b T46b :=
  cond (decide (t10 < (↑t5 : Int))) (cond (inb t10 t5 && (0 + t10.toNat).blt m5.length) (cond ((0 + t10.toNat).blt m5.length) (cond (inb t10 cs.length) (cond (fI (m5.getD (0 + t10.toNat) []) 0 != fI (cs.getD t10.toNat []) 1) (.out (.x0 false t10)) (.go ⟨IntKind.i64.wrap (t10 + 1)⟩)) (.bad)) (.bad)) (.bad)) (.out (.x1 t10))
noncomputable def o46b_0 (da : Int) (db : Int) (cs : List (List AV)) (t4 : Bool) (t5 : Nat) (m5 : List (List AV)) (t4' : Bool) (t10 : Int) : St :=
  { t := [(2, .rp [.int .i64, .int .i64, .sl 64] [.i .i64 da, .i .i64 db, .rs 64 cs] 0), (4, .b t4'), (5, .sl 5 0 t5), (10, .i .i64 t10)], m := [(0, .dead), (1, .dead), (2, .dead), (3, .dead), (4, .dead), (5, .row 3 m5)], nx := 6, nt := 109 }
noncomputable def o46b_1 (da : Int) (db : Int) (cs : List (List AV)) (t4 : Bool) (t5 : Nat) (m5 : List (List AV)) (t10 : Int) : St :=
  { t := [(2, .rp [.int .i64, .int .i64, .sl 64] [.i .i64 da, .i .i64 db, .rs 64 cs] 0), (4, .b t4), (5, .sl 5 0 t5), (10, .i .i64 t10)], m := [(0, .dead), (1, .dead), (2, .dead), (3, .dead), (4, .dead), (5, .row 3 m5)], nx := 6, nt := 109 }
noncomputable def ou46b (da : Int) (db : Int) (cs : List (List AV)) (t4 : Bool) (t5 : Nat) (m5 : List (List AV)) : T46b → Ex × St
  | .x0 t4' t10 => (.ret, o46b_0 da db cs t4 t5 m5 t4' t10)
  | .x1 t10 => (.ext 4, o46b_1 da db cs t4 t5 m5 t10)
noncomputable def r46b (da : Int) (db : Int) (cs : List (List AV)) (t4 : Bool) (t5 : Nat) (m5 : List (List AV)) (t10 : Int) : Option T46b := run (fun x => stp46b da db cs t4 t5 m5 x.t10) (⟨t10⟩ : S46b)
noncomputable def i46b_0 (da : Int) (db : Int) (cs : List (List AV)) (t4 : Bool) (t5 : Nat) (m5 : List (List AV)) (t10 : Int) : Bool := match r46b da db cs t4 t5 m5 t10 with
  | some (.x0 _ _) => true
  | _ => false
noncomputable def v46b_0_t4' (da : Int) (db : Int) (cs : List (List AV)) (t4 : Bool) (t5 : Nat) (m5 : List (List AV)) (t10 : Int) : Bool := match r46b da db cs t4 t5 m5 t10 with
  | some (.x0 t4' _) => t4'
  | _ => default
noncomputable def v46b_0_t10 (da : Int) (db : Int) (cs : List (List AV)) (t4 : Bool) (t5 : Nat) (m5 : List (List AV)) (t10 : Int) : Int := match r46b da db cs t4 t5 m5 t10 with
  | some (.x0 _ t10) => t10
  | _ => default
noncomputable def i46b_1 (da : Int) (db : Int) (cs : List (List AV)) (t4 : Bool) (t5 : Nat) (m5 : List (List AV)) (t10 : Int) : Bool := match r46b da db cs t4 t5 m5 t10 with
  | some (.x1 _) => true
  | _ => false
noncomputable def v46b_1_t10 (da : Int) (db : Int) (cs : List (List AV)) (t4 : Bool) (t5 : Nat) (m5 : List (List AV)) (t10 : Int) : Int := match r46b da db cs t4 t5 m5 t10 with
  | some (.x1 t10) => t10
  | _ => default
noncomputable def l46b (st : St) : Option (List (Bool × Ex × St)) := match normW Try.prog [(2, none), (4, none), (5, none), (10, none)] 6 st with
  | some ([.rp [.int .i64, .int .i64, .sl 64] [.i .i64 da, .i .i64 db, .rs 64 cs] 0, .b t4, .sl 5 0 t5, .i .i64 t10], [(0, .dead), (1, .dead), (2, .dead), (3, .dead), (4, .dead), (5, .row 3 m5)], 6, 109) => some [(i46b_0 da db cs t4 t5 m5 t10, .ret, o46b_0 da db cs t4 t5 m5 (v46b_0_t4' da db cs t4 t5 m5 t10) (v46b_0_t10 da db cs t4 t5 m5 t10)), (i46b_1 da db cs t4 t5 m5 t10, .ext 4, o46b_1 da db cs t4 t5 m5 (v46b_1_t10 da db cs t4 t5 m5 t10))]
  | _ => none
noncomputable def L46 : LSpec := fun p st => match p with
  | [false, true, false, true, false, false, true, false, false, true, false, true, true] => l46aa st
  | [false, true, false, true, true] => l46a st
  | [false, true, false, true, true, true] => l46b st
  | _ => none
theorem is46aa_0 (pl : List (List AV)) (da : Int) (db : Int) (cs : List (List AV)) (t4 : Bool) (t5 : Nat) (t6 : Int) (t7 : Int) (t8 : Int) (m5 : List (List AV)) (h : i46aa_0 pl da db cs t4 t5 t6 t7 t8 m5 = true) : r46aa pl da db cs t4 t5 t6 t7 t8 m5 = some (.x0 (v46aa_0_t4' pl da db cs t4 t5 t6 t7 t8 m5) (v46aa_0_t7 pl da db cs t4 t5 t6 t7 t8 m5) (v46aa_0_t8 pl da db cs t4 t5 t6 t7 t8 m5) (v46aa_0_m5 pl da db cs t4 t5 t6 t7 t8 m5)) := by
  unfold i46aa_0 at h
  unfold v46aa_0_t4' v46aa_0_t7 v46aa_0_t8 v46aa_0_m5
  generalize r46aa pl da db cs t4 t5 t6 t7 t8 m5 = r at h ⊢
  rcases r with _ | y
  · cases h
  · cases y <;> first | rfl | cases h
theorem is46aa_1 (pl : List (List AV)) (da : Int) (db : Int) (cs : List (List AV)) (t4 : Bool) (t5 : Nat) (t6 : Int) (t7 : Int) (t8 : Int) (m5 : List (List AV)) (h : i46aa_1 pl da db cs t4 t5 t6 t7 t8 m5 = true) : r46aa pl da db cs t4 t5 t6 t7 t8 m5 = some (.x1 (v46aa_1_t7 pl da db cs t4 t5 t6 t7 t8 m5) (v46aa_1_t8 pl da db cs t4 t5 t6 t7 t8 m5) (v46aa_1_m5 pl da db cs t4 t5 t6 t7 t8 m5)) := by
  unfold i46aa_1 at h
  unfold v46aa_1_t7 v46aa_1_t8 v46aa_1_m5
  generalize r46aa pl da db cs t4 t5 t6 t7 t8 m5 = r at h ⊢
  rcases r with _ | y
  · cases h
  · cases y <;> first | rfl | cases h
theorem round46aa (pl : List (List AV)) (da : Int) (db : Int) (cs : List (List AV)) (t4 : Bool) (t5 : Nat) (t6 : Int) (t7 : Int) (t8 : Int) (m5 : List (List AV)) : round Try.prog SPn (ro 46) L46 lp46aa [false, true, false, true, false, false, true, false, false, true, false, true, true] [(1, none), (2, none), (4, none), (5, none), (6, none), (7, none), (8, none)] 6 (s46aa pl da db cs t4 t5 t6 t7 t8 m5) =
    cond (inb t6 pl.length) (cond (decide (t8 < (↑(fE (pl.getD t6.toNat []) 0).length : Int))) (cond (inb t6 pl.length) (cond (inb t8 (fE (pl.getD t6.toNat []) 0).length) (cond (g57 (fI ((fE (pl.getD t6.toNat []) 0).getD t8.toNat []) 0) 0 (IntKind.i64.wrap ((↑cs.length : Int) - 1))) (cond (!w57_0 (fI ((fE (pl.getD t6.toNat []) 0).getD t8.toNat []) 0) 0 (IntKind.i64.wrap ((↑cs.length : Int) - 1))) (some (.ret, o46aa_0 pl da db cs t4 t5 t6 false t7 t8 m5)) (cond (decide (t8 > 0)) (cond (inb t6 pl.length) (cond (inb (IntKind.i64.wrap (t8 - 1)) (fE (pl.getD t6.toNat []) 0).length) (cond (decide (fI ((fE (pl.getD t6.toNat []) 0).getD (IntKind.i64.wrap (t8 - 1)).toNat []) 0 > fI ((fE (pl.getD t6.toNat []) 0).getD t8.toNat []) 0)) (some (.ret, o46aa_0 pl da db cs t4 t5 t6 false t7 t8 m5)) (cond (inb (fI ((fE (pl.getD t6.toNat []) 0).getD t8.toNat []) 0) t5 && (0 + (fI ((fE (pl.getD t6.toNat []) 0).getD t8.toNat []) 0).toNat).blt m5.length) (cond ((0 + (fI ((fE (pl.getD t6.toNat []) 0).getD t8.toNat []) 0).toNat).blt m5.length) (cond (inb (fI ((fE (pl.getD t6.toNat []) 0).getD t8.toNat []) 0) t5 && (0 + (fI ((fE (pl.getD t6.toNat []) 0).getD t8.toNat []) 0).toNat).blt m5.length) (cond ((0 + (fI ((fE (pl.getD t6.toNat []) 0).getD t8.toNat []) 0).toNat).blt m5.length) (cond (inb (fI ((fE (pl.getD t6.toNat []) 0).getD t8.toNat []) 0) cs.length) (some (.nrm, s46aa pl da db cs t4 t5 t6 (IntKind.i64.wrap (IntKind.i64.wrap (t7 + fI (cs.getD (fI ((fE (pl.getD t6.toNat []) 0).getD t8.toNat []) 0).toNat []) 0) + db)) (IntKind.i64.wrap (t8 + 1)) (m5.set (0 + (fI ((fE (pl.getD t6.toNat []) 0).getD t8.toNat []) 0).toNat) (setCs (m5.getD (0 + (fI ((fE (pl.getD t6.toNat []) 0).getD t8.toNat []) 0).toNat) []) 0 [AV.i IntKind.i64 (IntKind.i64.wrap (fI (m5.getD (0 + (fI ((fE (pl.getD t6.toNat []) 0).getD t8.toNat []) 0).toNat) []) 0 + 1))])))) (none)) (none)) (none)) (none)) (none))) (none)) (none)) (cond (inb (fI ((fE (pl.getD t6.toNat []) 0).getD t8.toNat []) 0) t5 && (0 + (fI ((fE (pl.getD t6.toNat []) 0).getD t8.toNat []) 0).toNat).blt m5.length) (cond ((0 + (fI ((fE (pl.getD t6.toNat []) 0).getD t8.toNat []) 0).toNat).blt m5.length) (cond (inb (fI ((fE (pl.getD t6.toNat []) 0).getD t8.toNat []) 0) t5 && (0 + (fI ((fE (pl.getD t6.toNat []) 0).getD t8.toNat []) 0).toNat).blt m5.length) (cond ((0 + (fI ((fE (pl.getD t6.toNat []) 0).getD t8.toNat []) 0).toNat).blt m5.length) (cond (inb (fI ((fE (pl.getD t6.toNat []) 0).getD t8.toNat []) 0) cs.length) (some (.nrm, s46aa pl da db cs t4 t5 t6 (IntKind.i64.wrap (IntKind.i64.wrap (t7 + fI (cs.getD (fI ((fE (pl.getD t6.toNat []) 0).getD t8.toNat []) 0).toNat []) 0) + db)) (IntKind.i64.wrap (t8 + 1)) (m5.set (0 + (fI ((fE (pl.getD t6.toNat []) 0).getD t8.toNat []) 0).toNat) (setCs (m5.getD (0 + (fI ((fE (pl.getD t6.toNat []) 0).getD t8.toNat []) 0).toNat) []) 0 [AV.i IntKind.i64 (IntKind.i64.wrap (fI (m5.getD (0 + (fI ((fE (pl.getD t6.toNat []) 0).getD t8.toNat []) 0).toNat) []) 0 + 1))])))) (none)) (none)) (none)) (none)) (none)))) (none)) (none)) (none)) (some (.ext 2, o46aa_1 pl da db cs t4 t5 t6 t7 t8 m5))) (none) := by kernel_rfl
theorem rnd46aa (pl : List (List AV)) (da : Int) (db : Int) (cs : List (List AV)) (t4 : Bool) (t5 : Nat) (t6 : Int) (x : S46aa) : round Try.prog SPn (ro 46) L46 lp46aa [false, true, false, true, false, false, true, false, false, true, false, true, true] [(1, none), (2, none), (4, none), (5, none), (6, none), (7, none), (8, none)] 6 ((fun x => s46aa pl da db cs t4 t5 t6 x.t7 x.t8 x.m5) x) = toR (fun x => s46aa pl da db cs t4 t5 t6 x.t7 x.t8 x.m5) (ou46aa pl da db cs t4 t5 t6) (stp46aa pl da db cs t4 t5 t6 x.t7 x.t8 x.m5) := by
  refine (round46aa _ _ _ _ _ _ _ _ _ _ ).trans ?_
  unfold stp46aa
  simp only [toR_cond]
  rfl
theorem lok46aa {st : St} {outs : List (Bool × Ex × St)} {e : Ex} {s : St} (hl : l46aa st = some outs) (hch : Chosen outs e s) :
    ∃ keep nb, 0 ≤ nb ∧ LB Try.prog SPn (ro 46) L46 lp46aa [false, true, false, true, false, false, true, false, false, true, false, true, true] keep nb st e s := by
  unfold l46aa at hl
  split at hl
  · rename_i pl da db cs t4 t5 t6 t7 t8 m5 hno
    cases hl
    have hno := normW_norm hno
    refine ⟨_, _, ?_, .enter hno ?_⟩
    · decide
    have main := fun y h => LB_run (x := (⟨t7, t8, m5⟩ : S46aa)) (y := y) (nb := 6) (fun y => by cases y <;> simp [ou46aa]) (rnd46aa pl da db cs t4 t5 t6) h
    obtain ⟨x, hx, hg, rfl, rfl⟩ := chosen_any hch
    simp only [List.mem_cons, List.not_mem_nil, or_false] at hx
    rcases hx with rfl | rfl
    · exact main _ (is46aa_0 pl da db cs t4 t5 t6 t7 t8 m5 hg)
    · exact main _ (is46aa_1 pl da db cs t4 t5 t6 t7 t8 m5 hg)
  · cases hl
theorem is46a_0 (pl : List (List AV)) (da : Int) (db : Int) (cs : List (List AV)) (t4 : Bool) (t5 : Nat) (t6 : Int) (m5 : List (List AV)) (h : i46a_0 pl da db cs t4 t5 t6 m5 = true) : r46a pl da db cs t4 t5 t6 m5 = some (.x0 (v46a_0_t4' pl da db cs t4 t5 t6 m5) (v46a_0_t6 pl da db cs t4 t5 t6 m5) (v46a_0_m5 pl da db cs t4 t5 t6 m5)) := by
  unfold i46a_0 at h
  unfold v46a_0_t4' v46a_0_t6 v46a_0_m5
  generalize r46a pl da db cs t4 t5 t6 m5 = r at h ⊢
  rcases r with _ | y
  · cases h
  · cases y <;> first | rfl | cases h
theorem is46a_1 (pl : List (List AV)) (da : Int) (db : Int) (cs : List (List AV)) (t4 : Bool) (t5 : Nat) (t6 : Int) (m5 : List (List AV)) (h : i46a_1 pl da db cs t4 t5 t6 m5 = true) : r46a pl da db cs t4 t5 t6 m5 = some (.x1 (v46a_1_t6 pl da db cs t4 t5 t6 m5) (v46a_1_m5 pl da db cs t4 t5 t6 m5)) := by
  unfold i46a_1 at h
  unfold v46a_1_t6 v46a_1_m5
  generalize r46a pl da db cs t4 t5 t6 m5 = r at h ⊢
  rcases r with _ | y
  · cases h
  · cases y <;> first | rfl | cases h
theorem round46a (pl : List (List AV)) (da : Int) (db : Int) (cs : List (List AV)) (t4 : Bool) (t5 : Nat) (t6 : Int) (m5 : List (List AV)) : round Try.prog SPn (ro 46) L46 lp46a [false, true, false, true, true] [(1, none), (2, none), (4, none), (5, none), (6, none)] 6 (s46a pl da db cs t4 t5 t6 m5) =
    cond (decide (t6 < (↑pl.length : Int))) (cond (i46aa_0 pl da db cs t4 t5 t6 0 0 m5) (some (.ret, o46a_0 pl da db cs t4 t5 (v46aa_0_t4' pl da db cs t4 t5 t6 0 0 m5) t6 (v46aa_0_m5 pl da db cs t4 t5 t6 0 0 m5))) (cond (i46aa_1 pl da db cs t4 t5 t6 0 0 m5) (cond (inb t6 pl.length) (cond ((↑(fE (pl.getD t6.toNat []) 0).length : Int) == 0) (some (.ret, o46a_0 pl da db cs t4 t5 false t6 (v46aa_1_m5 pl da db cs t4 t5 t6 0 0 m5))) (cond (decide (v46aa_1_t7 pl da db cs t4 t5 t6 0 0 m5 > IntKind.i64.wrap (da + db))) (some (.ret, o46a_0 pl da db cs t4 t5 false t6 (v46aa_1_m5 pl da db cs t4 t5 t6 0 0 m5))) (some (.nrm, s46a pl da db cs t4 t5 (IntKind.i64.wrap (t6 + 1)) (v46aa_1_m5 pl da db cs t4 t5 t6 0 0 m5))))) (none)) (none))) (some (.ext 0, o46a_1 pl da db cs t4 t5 t6 m5)) := by kernel_rfl
theorem rnd46a (pl : List (List AV)) (da : Int) (db : Int) (cs : List (List AV)) (t4 : Bool) (t5 : Nat) (x : S46a) : round Try.prog SPn (ro 46) L46 lp46a [false, true, false, true, true] [(1, none), (2, none), (4, none), (5, none), (6, none)] 6 ((fun x => s46a pl da db cs t4 t5 x.t6 x.m5) x) = toR (fun x => s46a pl da db cs t4 t5 x.t6 x.m5) (ou46a pl da db cs t4 t5) (stp46a pl da db cs t4 t5 x.t6 x.m5) := by
  refine (round46a _ _ _ _ _ _ _ _ ).trans ?_
  unfold stp46a
  simp only [toR_cond]
  rfl
theorem lok46a {st : St} {outs : List (Bool × Ex × St)} {e : Ex} {s : St} (hl : l46a st = some outs) (hch : Chosen outs e s) :
    ∃ keep nb, 0 ≤ nb ∧ LB Try.prog SPn (ro 46) L46 lp46a [false, true, false, true, true] keep nb st e s := by
  unfold l46a at hl
  split at hl
  · rename_i pl da db cs t4 t5 t6 m5 hno
    cases hl
    have hno := normW_norm hno
    refine ⟨_, _, ?_, .enter hno ?_⟩
    · decide
    have main := fun y h => LB_run (x := (⟨t6, m5⟩ : S46a)) (y := y) (nb := 6) (fun y => by cases y <;> simp [ou46a]) (rnd46a pl da db cs t4 t5) h
    obtain ⟨x, hx, hg, rfl, rfl⟩ := chosen_any hch
    simp only [List.mem_cons, List.not_mem_nil, or_false] at hx
    rcases hx with rfl | rfl
    · exact main _ (is46a_0 pl da db cs t4 t5 t6 m5 hg)
    · exact main _ (is46a_1 pl da db cs t4 t5 t6 m5 hg)
  · cases hl
theorem is46b_0 (da : Int) (db : Int) (cs : List (List AV)) (t4 : Bool) (t5 : Nat) (m5 : List (List AV)) (t10 : Int) (h : i46b_0 da db cs t4 t5 m5 t10 = true) : r46b da db cs t4 t5 m5 t10 = some (.x0 (v46b_0_t4' da db cs t4 t5 m5 t10) (v46b_0_t10 da db cs t4 t5 m5 t10)) := by
  unfold i46b_0 at h
  unfold v46b_0_t4' v46b_0_t10
  generalize r46b da db cs t4 t5 m5 t10 = r at h ⊢
  rcases r with _ | y
  · cases h
  · cases y <;> first | rfl | cases h
theorem is46b_1 (da : Int) (db : Int) (cs : List (List AV)) (t4 : Bool) (t5 : Nat) (m5 : List (List AV)) (t10 : Int) (h : i46b_1 da db cs t4 t5 m5 t10 = true) : r46b da db cs t4 t5 m5 t10 = some (.x1 (v46b_1_t10 da db cs t4 t5 m5 t10)) := by
  unfold i46b_1 at h
  unfold v46b_1_t10
  generalize r46b da db cs t4 t5 m5 t10 = r at h ⊢
  rcases r with _ | y
  · cases h
  · cases y <;> first | rfl | cases h
theorem round46b (da : Int) (db : Int) (cs : List (List AV)) (t4 : Bool) (t5 : Nat) (t10 : Int) (m5 : List (List AV)) : round Try.prog SPn (ro 46) L46 lp46b [false, true, false, true, true, true] [(2, none), (4, none), (5, none), (10, none)] 6 (s46b da db cs t4 t5 t10 m5) =
    cond (decide (t10 < (↑t5 : Int))) (cond (inb t10 t5 && (0 + t10.toNat).blt m5.length) (cond ((0 + t10.toNat).blt m5.length) (cond (inb t10 cs.length) (cond (fI (m5.getD (0 + t10.toNat) []) 0 != fI (cs.getD t10.toNat []) 1) (some (.ret, o46b_0 da db cs t4 t5 m5 false t10)) (some (.nrm, s46b da db cs t4 t5 (IntKind.i64.wrap (t10 + 1)) m5))) (none)) (none)) (none)) (some (.ext 4, o46b_1 da db cs t4 t5 m5 t10)) := by kernel_rfl
theorem rnd46b (da : Int) (db : Int) (cs : List (List AV)) (t4 : Bool) (t5 : Nat) (m5 : List (List AV)) (x : S46b) : round Try.prog SPn (ro 46) L46 lp46b [false, true, false, true, true, true] [(2, none), (4, none), (5, none), (10, none)] 6 ((fun x => s46b da db cs t4 t5 x.t10 m5) x) = toR (fun x => s46b da db cs t4 t5 x.t10 m5) (ou46b da db cs t4 t5 m5) (stp46b da db cs t4 t5 m5 x.t10) := by
  refine (round46b _ _ _ _ _ _ _ ).trans ?_
  unfold stp46b
  simp only [toR_cond]
  rfl
theorem lok46b {st : St} {outs : List (Bool × Ex × St)} {e : Ex} {s : St} (hl : l46b st = some outs) (hch : Chosen outs e s) :
    ∃ keep nb, 0 ≤ nb ∧ LB Try.prog SPn (ro 46) L46 lp46b [false, true, false, true, true, true] keep nb st e s := by
  unfold l46b at hl
  split at hl
  · rename_i da db cs t4 t5 t10 m5 hno
    cases hl
    have hno := normW_norm hno
    refine ⟨_, _, ?_, .enter hno ?_⟩
    · decide
    have main := fun y h => LB_run (x := (⟨t10⟩ : S46b)) (y := y) (nb := 6) (fun y => by cases y <;> simp [ou46b]) (rnd46b da db cs t4 t5 m5) h
    obtain ⟨x, hx, hg, rfl, rfl⟩ := chosen_any hch
    simp only [List.mem_cons, List.not_mem_nil, or_false] at hx
    rcases hx with rfl | rfl
    · exact main _ (is46b_0 da db cs t4 t5 m5 t10 hg)
    · exact main _ (is46b_1 da db cs t4 t5 m5 t10 hg)
  · cases hl
theorem L46_ok (q : Pl) (c : Code) (hq : locate c46 q.reverse = some (.loop c)) (st : St) (outs : List (Bool × Ex × St)) (e : Ex) (s : St) (hl : L46 q st = some outs) (hch : Chosen outs e s) :
    ∃ keep nb, 0 ≤ nb ∧ LB Try.prog SPn (ro 46) L46 c q keep nb st e s := by
  unfold L46 at hl
  split at hl
  · have : locate c46 ([false, true, false, true, false, false, true, false, false, true, false, true, true] : Pl).reverse = some (.loop lp46aa) := by kernel_rfl
    rw [this] at hq
    cases hq
    exact lok46aa hl hch
  · have : locate c46 ([false, true, false, true, true] : Pl).reverse = some (.loop lp46a) := by kernel_rfl
    rw [this] at hq
    cases hq
    exact lok46a hl hch
  · have : locate c46 ([false, true, false, true, true, true] : Pl).reverse = some (.loop lp46b) := by kernel_rfl
    rw [this] at hq
    cases hq
    exact lok46b hl hch
  · cases hl
theorem lok46 : LOK Try.prog SPn (ro 46) L46 0 false c46 [] :=
  lok_lo L46_ok c46 [] false (locate_nil _) (by kernel_rfl)
noncomputable def t46 (da db : Int) (cs pl : List (List AV)) : Tr ((Bool)) :=
  .cn (decide ((↑cs.length : Int) = (↑cs.length : Int)) && (decide (0 ≤ (↑cs.length : Int)) && decide ((↑cs.length : Int) * (↑8 : Int) ≤ 140737488355328) && decide ((↑cs.length : Int) ≤ 9223372036854775807))) (.cn (i46a_0 pl da db cs false (↑cs.length : Int).toNat 0 (List.replicate (↑cs.length : Int).toNat [AV.i IntKind.i64 0])) (.lf (v46a_0_t4' pl da db cs false (↑cs.length : Int).toNat 0 (List.replicate (↑cs.length : Int).toNat [AV.i IntKind.i64 0]))) (.cn (i46a_1 pl da db cs false (↑cs.length : Int).toNat 0 (List.replicate (↑cs.length : Int).toNat [AV.i IntKind.i64 0])) (.cn (i46b_0 da db cs false (↑cs.length : Int).toNat (v46a_1_m5 pl da db cs false (↑cs.length : Int).toNat 0 (List.replicate (↑cs.length : Int).toNat [AV.i IntKind.i64 0])) 0) (.lf (v46b_0_t4' da db cs false (↑cs.length : Int).toNat (v46a_1_m5 pl da db cs false (↑cs.length : Int).toNat 0 (List.replicate (↑cs.length : Int).toNat [AV.i IntKind.i64 0])) 0)) (.cn (i46b_1 da db cs false (↑cs.length : Int).toNat (v46a_1_m5 pl da db cs false (↑cs.length : Int).toNat 0 (List.replicate (↑cs.length : Int).toNat [AV.i IntKind.i64 0])) 0) (.lf (true)) (.nn))) (.nn))) (.nn)
noncomputable def g46 (da db : Int) (cs pl : List (List AV)) : Bool := (t46 da db cs pl).g
noncomputable def w46_0 (da db : Int) (cs pl : List (List AV)) : Bool := (t46 da db cs pl).val
theorem eq46 (da db : Int) (cs pl : List (List AV)) : evF Try.prog SPn (ro 46) L46 Try.f46 [.agg [.i .i64 da, .i .i64 db, .rs 64 cs], .rs 36 pl] = (t46 da db cs pl).opt (fun (x : (Bool)) => (.b x : AV)) := by kernel_rfl
theorem con46 (da db : Int) (cs pl : List (List AV)) (h : g46 da db cs pl = true) : Con Try.prog 46 [.agg [.i .i64 da, .i .i64 db, .rs 64 cs], .rs 36 pl] [] (.b (w46_0 da db cs pl)) [] :=
  con_of SPn_ok mixed Try.func46 (c := c46) rfl (names 46 _ Try.func46) lok46 ((eq46 da db cs pl).trans (Tr.sound _ _ h))
noncomputable def e46 (args : List AV) (rows : List Blk) : Option (Bool × AV × List Blk) := match args, rows with
  | [.agg [.i .i64 da, .i .i64 db, .rs 64 cs], .rs 36 pl], [] => some (g46 da db cs pl, .b (w46_0 da db cs pl), [])
  | _, _ => none
theorem e46_ok (args : List AV) (rows : List Blk) (pre : Bool) (v : AV) (rows' : List Blk) (h : e46 args rows = some (pre, v, rows')) (hp : pre = true) : Con Try.prog 46 args rows v rows' := by
  unfold e46 at h
  split at h
  · cases h; exact con46 _ _ _ _ hp
  · cases h
-- SPEC 46
end Go.Proofs.Ytgifjphinkbcaaa

set_option maxRecDepth 100000
set_option linter.unusedVariables false
namespace Go.Proofs.Ytgifjphinkbcaaa
open Go Go.Ev
/-! ### Planned -/
section
variable {da db : Int} {cs : List (List AV)}
def szR (db : Int) (cs : List (List AV)) : List Nat → Int
  | [] => 0
  | c :: r => ln cs c + db + szR db cs r
theorem szR_app {db : Int} {cs : List (List AV)} : ∀ {a b : List Nat}, szR db cs (a ++ b) = szR db cs a + szR db cs b
  | [], b => by show szR db cs b = 0 + _; omega
  | c :: r, b => by
    show ln cs c + db + szR db cs (r ++ b) = ln cs c + db + szR db cs r + _
    rw [szR_app]; omega
/-- A row of a plan. -/
structure RowP (da db : Int) (cs : List (List AV)) (r : List Nat) : Prop where
  lt : ∀ c, c ∈ r → c < cs.length
  up : ∀ k, 0 < k → k < r.length → r.getD (k - 1) 0 ≤ r.getD k 0
  ne : r ≠ []
  sz : szR db cs r ≤ da + db
theorem szR_len (hF : RFine da db cs) : ∀ {r : List Nat}, (∀ c, c ∈ r → c < cs.length) → (r.length : Int) ≤ szR db cs r
  | [], _ => Int.le_refl _
  | c :: r, h => by
    have := szR_len hF (r := r) (fun c hc => h c (by simp [hc]))
    have := sz_pos hF c (h c (by simp))
    show ((r.length + 1 : Nat) : Int) ≤ ln cs c + db + szR db cs r
    omega
def plAV (rs : List (List Nat)) : List (List AV) := rs.map fun r => [.rs 3 (rowAV r)]
theorem plAV_len (rs : List (List Nat)) : (plAV rs).length = rs.length := by simp [plAV]
theorem plAV_get {rs : List (List Nat)} {i : Nat} (h : i < rs.length) : fE ((plAV rs).getD i []) 0 = rowAV (rs.getD i []) := by
  unfold plAV
  simp [List.getD_eq_getElem?_getD, h, fE]
  rfl
def cntR (rs : List (List Nat)) (j : Nat) : Int := (rs.map fun r => (r.count j : Int)).sum
theorem cntR_snoc (rs : List (List Nat)) (r : List Nat) (j : Nat) : cntR (rs ++ [r]) j = cntR rs j + (r.count j : Int) := by
  unfold cntR
  rw [List.map_append, List.sum_append]
  simp
theorem planned_row (hF : RFine da db cs) {rs : List (List Nat)} {i : Nat} (hi : i < rs.length) (hr : RowP da db cs (rs.getD i [])) (f : Nat → Int) (hf : ∀ j, 0 ≤ f j ∧ f j ≤ 100000000) :
    ∃ a, r46aa (plAV rs) da db cs false cs.length (i : Int) 0 0 (itab f cs.length) = some (.x1 (szR db cs (rs.getD i [])) a (itab (fun j => f j + ((rs.getD i []).count j : Int)) cs.length)) := by
  have hl := hF.l
  have ha := hF.a
  have hb := hF.b
  have hget := plAV_get hi
  have hi' : i < (plAV rs).length := by rw [plAV_len]; exact hi
  generalize hR : rs.getD i [] = r at *
  have hlen := szR_len hF hr.lt
  have hsz := hr.sz
  have run : ∃ y, r46aa (plAV rs) da db cs false cs.length (i : Int) 0 ((0 : Nat) : Int) (itab f cs.length) = some y ∧ ∃ a, y = .x1 (szR db cs r) a (itab (fun j => f j + (r.count j : Int)) cs.length) := by
    have e0 : (⟨0, ((0 : Nat) : Int), itab f cs.length⟩ : S46aa) = ⟨szR db cs (r.take 0), ((0 : Nat) : Int), itab (fun j => f j + ((r.take 0).count j : Int)) cs.length⟩ := by
      congr 1
      exact itab_congr fun j _ => by simp
    unfold r46aa
    rw [e0]
    refine run_for (S := Unit) r.length (fun k _ => (⟨szR db cs (r.take k), (k : Int), itab (fun j => f j + ((r.take k).count j : Int)) cs.length⟩ : S46aa)) (fun _ _ => True) (fun _ _ (y : T46aa) => ∃ a, y = .x1 (szR db cs r) a (itab (fun j => f j + (r.count j : Int)) cs.length)) (fun k _ hk _ => ?_) (fun _ _ => ?_) 0 () (by omega) trivial
    · left
      refine ⟨(), ?_, trivial, fun y hy => hy⟩
      have hmem : r.getD k 0 ∈ r := by
        rw [List.getD_eq_getElem?_getD, List.getElem?_eq_getElem hk]
        exact List.getElem_mem hk
      have hc := hr.lt _ hmem
      have htake : r.take (k + 1) = r.take k ++ [r.getD k 0] := by
        rw [List.take_succ_eq_append_getElem hk]
        congr 1
        simp [List.getD_eq_getElem?_getD, hk]
      have hsplit : szR db cs r = szR db cs (r.take k) + (ln cs (r.getD k 0) + db) + szR db cs (r.drop (k + 1)) := by
        have h1 : r = r.take (k + 1) ++ r.drop (k + 1) := (List.take_append_drop (k + 1) r).symm
        have h2 : szR db cs r = szR db cs (r.take (k + 1)) + szR db cs (r.drop (k + 1)) := by
          rw [← szR_app, List.take_append_drop]
        rw [h2, htake, szR_app]
        show _ + (ln cs (r.getD k 0) + db + 0) + _ = _
        omega
      have hn1 := szR_len hF (r := r.take k) (fun c h => hr.lt c (List.mem_of_mem_take h))
      have hn2 := szR_len hF (r := r.drop (k + 1)) (fun c h => hr.lt c (List.mem_of_mem_drop h))
      have hp := sz_pos hF _ hc
      have hcut := hF.c _ hc
      unfold okCut at hcut
      have hcnt : ((r.take k).count (r.getD k 0) : Int) ≤ 200000 := by
        have : (r.take k).count (r.getD k 0) ≤ (r.take k).length := List.count_le_length
        omega
      have hfc := hf (r.getD k 0)
      have hgk : fI ((rowAV r).getD k []) 0 = (r.getD k 0 : Int) := rowAV_get hk
      have d2 : decide ((k : Int) < ((rowAV r).length : Int)) = true := by rw [rowAV_length]; exact lt_true hk
      have d3 : inb (k : Int) (rowAV r).length = true := by rw [rowAV_length]; exact inb_true hk
      have wcs : IntKind.i64.wrap ((cs.length : Int) - 1) = (cs.length : Int) - 1 := wrap64 (by omega) (by omega)
      have d4 : w57_0 (r.getD k 0 : Int) 0 ((cs.length : Int) - 1) = true := by
        rw [(w57_eq _ _ _).2, decide_eq_true (by omega), decide_eq_true (by omega)]; rfl
      have d5 : (inb (r.getD k 0 : Int) cs.length && (0 + ((r.getD k 0 : Nat) : Int).toNat).blt (itab (fun j => f j + ((r.take k).count j : Int)) cs.length).length) = true := by
        rw [itab_len, Int.toNat_natCast, Nat.zero_add, inb_true hc]
        simp only [Nat.blt, Bool.true_and, Nat.ble_eq]
        exact hc
      have d6 : (0 + ((r.getD k 0 : Nat) : Int).toNat).blt (itab (fun j => f j + ((r.take k).count j : Int)) cs.length).length = true := by
        rw [itab_len, Int.toNat_natCast, Nat.zero_add]
        simp only [Nat.blt, Nat.ble_eq]
        exact hc
      have hset : (itab (fun j => f j + ((r.take k).count j : Int)) cs.length).set (r.getD k 0) (setCs ((itab (fun j => f j + ((r.take k).count j : Int)) cs.length).getD (r.getD k 0) []) 0 [.i .i64 (IntKind.i64.wrap (fI ((itab (fun j => f j + ((r.take k).count j : Int)) cs.length).getD (r.getD k 0) []) 0 + 1))]) = itab (fun j => f j + ((r.take (k + 1)).count j : Int)) cs.length := by
        refine itab_set hc ?_ (fun j _ hj => ?_)
        · rw [itab_get hc]
          show IntKind.i64.wrap (f (r.getD k 0) + ((r.take k).count (r.getD k 0) : Int) + 1) = _
          rw [wrap64 (by omega) (by omega), htake, List.count_append]
          simp
          omega
        · rw [htake, List.count_append]
          have : [r.getD k 0].count j = 0 := by
            rw [List.count_singleton]
            have : (r.getD k 0 == j) = false := by simpa using fun e => hj e.symm
            rw [this]; rfl
          rw [this]; rfl
      have hsum : IntKind.i64.wrap (IntKind.i64.wrap (szR db cs (r.take k) + fI (cs.getD (r.getD k 0) []) 0) + db) = szR db cs (r.take (k + 1)) := by
        show IntKind.i64.wrap (IntKind.i64.wrap (szR db cs (r.take k) + ln cs (r.getD k 0)) + db) = _
        rw [wrap64 (x := szR db cs (r.take k) + ln cs (r.getD k 0)) (by omega) (by omega), wrap64 (by omega) (by omega), htake, szR_app]
        show _ = _ + (ln cs (r.getD k 0) + db + 0)
        omega
      unfold stp46aa
      dsimp only
      rw [inb_true hi', Int.toNat_natCast, hget, d2, d3, Int.toNat_natCast, hgk, wcs, (w57_eq _ _ _).1, d4, d5, d6, inb_true hc, Int.toNat_natCast, Nat.zero_add, hset, hsum, wrap_succ (by omega)]
      rcases Nat.eq_zero_or_pos k with h0 | h0
      · rw [decide_eq_false (show ¬ (k : Int) > 0 by omega)]; rfl
      · have wk : IntKind.i64.wrap ((k : Int) - 1) = ((k - 1 : Nat) : Int) := (wrap64 (by omega) (by omega)).trans (by omega)
        have hup := hr.up k h0 hk
        rw [decide_eq_true (show (k : Int) > 0 by omega), wk, Int.toNat_natCast, rowAV_length, inb_true (show k - 1 < r.length by omega), rowAV_get (show k - 1 < r.length by omega), decide_eq_false (by omega)]
        rfl
    · refine ⟨.x1 (szR db cs r) (r.length : Int) (itab (fun j => f j + (r.count j : Int)) cs.length), ?_, _, rfl⟩
      unfold stp46aa
      dsimp only
      rw [inb_true hi', Int.toNat_natCast, hget, rowAV_length, lt_false, List.take_length]
      rfl
  obtain ⟨y, h1, a, h2⟩ := run
  exact ⟨a, by rw [← h2]; exact h1⟩
theorem planned_val (hF : RFine da db cs) {rs : List (List Nat)} (hr : ∀ i, i < rs.length → RowP da db cs (rs.getD i [])) (hn : rs.length ≤ 100) (hc : ∀ j, j < cs.length → cntR rs j = mn cs j) :
    g46 da db cs (plAV rs) = true ∧ w46_0 da db cs (plAV rs) = true := by
  have hl := hF.l
  have ha := hF.a
  have hb := hF.b
  have outer : ∃ a, r46a (plAV rs) da db cs false cs.length 0 (itab (fun _ => 0) cs.length) = some (.x1 a (itab (cntR rs) cs.length)) := by
    have run := run_for (S := Unit) (step := fun x : S46a => stp46a (plAV rs) da db cs false cs.length x.t6 x.m5) rs.length (fun k _ => (⟨(k : Int), itab (cntR (rs.take k)) cs.length⟩ : S46a)) (fun k _ => ∀ j, 0 ≤ cntR (rs.take k) j ∧ cntR (rs.take k) j ≤ 200000 * (k : Int)) (fun _ _ (y : T46a) => ∃ a, y = .x1 a (itab (cntR rs) cs.length))
      (fun k _ hk hI => by
        left
        have hrow := hr k hk
        have hlen := szR_len hF hrow.lt
        have hsz := hrow.sz
        have htake : rs.take (k + 1) = rs.take k ++ [rs.getD k []] := by
          rw [List.take_succ_eq_append_getElem hk]
          congr 1
          simp [List.getD_eq_getElem?_getD, hk]
        have hsn : ∀ j, cntR (rs.take (k + 1)) j = cntR (rs.take k) j + ((rs.getD k []).count j : Int) := fun j => by rw [htake, cntR_snoc]
        have hcl : ∀ j, (((rs.getD k []).count j : Nat) : Int) ≤ 200000 := fun j => by
          have : (rs.getD k []).count j ≤ (rs.getD k []).length := List.count_le_length
          omega
        obtain ⟨a, h1⟩ := planned_row hF hk hrow (cntR (rs.take k)) (fun j => by have := hI j; omega)
        refine ⟨(), ?_, fun j => ?_, fun y hy => hy⟩
        · unfold stp46a
          dsimp only
          have ne0 : ((((rs.getD k []).length : Nat) : Int) == 0) = false := by
            rw [beq_eq_false_iff_ne]
            intro h0
            exact hrow.ne (List.eq_nil_of_length_eq_zero (by omega))
          unfold i46aa_0 i46aa_1 v46aa_1_m5 v46aa_1_t7
          rw [h1]
          dsimp only
          rw [plAV_len, lt_true hk, inb_true hk, Int.toNat_natCast, plAV_get hk, rowAV_length, ne0, wrap64 (by omega) (by omega), decide_eq_false (show ¬ szR db cs (rs.getD k []) > da + db by omega), wrap_succ (by omega)]
          show Lp.go _ = _
          congr 2
          exact itab_congr fun j _ => (hsn j).symm
        · have := hI j
          have := hcl j
          rw [hsn j]
          omega)
      (fun _ _ => by
        refine ⟨.x1 (rs.length : Int) (itab (cntR rs) cs.length), ?_, _, rfl⟩
        unfold stp46a
        dsimp only
        rw [plAV_len, lt_false, List.take_length]
        rfl)
      0 () (by omega) (fun j => ⟨by show (0 : Int) ≤ 0; omega, by show (0 : Int) ≤ _; omega⟩)
    obtain ⟨y, h1, a, h2⟩ := run
    refine ⟨a, ?_⟩
    rw [← h2]
    exact h1
  have last : ∃ a, r46b da db cs false cs.length (itab (cntR rs) cs.length) 0 = some (.x1 a) := by
    have run := run_for (S := Unit) (step := fun x : S46b => stp46b da db cs false cs.length (itab (cntR rs) cs.length) x.t10) cs.length (fun k _ => (⟨(k : Int)⟩ : S46b)) (fun _ _ => True) (fun _ _ (y : T46b) => ∃ a, y = .x1 a)
      (fun k _ hk _ => by
        left
        refine ⟨(), ?_, trivial, fun y hy => hy⟩
        have d5 : (inb (k : Int) cs.length && (0 + ((k : Nat) : Int).toNat).blt (itab (cntR rs) cs.length).length) = true := by
          rw [itab_len, Int.toNat_natCast, Nat.zero_add, inb_true hk]
          simp only [Nat.blt, Bool.true_and, Nat.ble_eq]
          exact hk
        have d6 : (0 + ((k : Nat) : Int).toNat).blt (itab (cntR rs) cs.length).length = true := by
          rw [itab_len, Int.toNat_natCast, Nat.zero_add]
          simp only [Nat.blt, Nat.ble_eq]
          exact hk
        have ne0 : (cntR rs k != fI (cs.getD k []) 1) = false := by
          rw [bne_eq_false_iff_eq]
          exact hc k hk
        unfold stp46b
        dsimp only
        rw [lt_true hk, d5, d6, inb_true hk, Int.toNat_natCast, Nat.zero_add, itab_get hk]
        show cond true (cond true (cond true (cond true (cond (cntR rs k != fI (cs.getD k []) 1) _ _) _) _) _) _ = _
        rw [ne0, wrap_succ (by omega)]
        rfl)
      (fun _ _ => by
        refine ⟨.x1 (cs.length : Int), ?_, _, rfl⟩
        unfold stp46b
        dsimp only
        rw [lt_false]
        rfl)
      0 () (by omega) trivial
    obtain ⟨y, h1, a, h2⟩ := run
    exact ⟨a, by rw [← h2]; exact h1⟩
  obtain ⟨a, h1⟩ := outer
  obtain ⟨b, h2⟩ := last
  have mk8 : (decide ((cs.length : Int) = (cs.length : Int)) && (decide (0 ≤ (cs.length : Int)) && decide ((cs.length : Int) * (8 : Int) ≤ 140737488355328) && decide ((cs.length : Int) ≤ 9223372036854775807))) = true := by
    simp only [Bool.and_eq_true, decide_eq_true_eq]
    exact ⟨trivial, ⟨by omega, by omega⟩, by omega⟩
  unfold g46 w46_0 t46
  rw [mk8, Int.toNat_natCast, itab_zero]
  unfold i46a_0 i46a_1 v46a_1_m5
  rw [h1]
  dsimp only
  unfold i46b_0 i46b_1
  rw [h2]
  exact ⟨rfl, rfl⟩
end
end Go.Proofs.Ytgifjphinkbcaaa

set_option maxRecDepth 100000
set_option maxHeartbeats 0
set_option linter.unusedVariables false
namespace Go.Proofs.Ytgifjphinkbcaaa
open Go Go.Ev

/-! ### bits.Mul64 -/
noncomputable def c93 : Code := match Try.f93.body with | some c => c | _ => .skip
theorem lok93 : LOK Try.prog S0 (ro 93) (fun _ _ => none) 0 false c93 [] :=
  lok_lo (fun _ _ _ _ _ _ _ h _ => by cases h) c93 [] false (locate_nil _) (by kernel_rfl)
noncomputable def t93 (x y : Int) : Tr ((Int) × (Int)) :=
  .lf (IntKind.u64.wrap (IntKind.u64.wrap (IntKind.u64.wrap (x.fdiv (2 ^ 32) * y.fdiv (2 ^ 32)) + (IntKind.u64.wrap (IntKind.u64.wrap (x.fdiv (2 ^ 32) * IntKind.u64.wrap (↑(BitVec.ofInt 64 y &&& BitVec.ofInt 64 4294967295).toNat : Int)) + (IntKind.u64.wrap (IntKind.u64.wrap (↑(BitVec.ofInt 64 x &&& BitVec.ofInt 64 4294967295).toNat : Int) * IntKind.u64.wrap (↑(BitVec.ofInt 64 y &&& BitVec.ofInt 64 4294967295).toNat : Int))).fdiv (2 ^ 32))).fdiv (2 ^ 32)) + (IntKind.u64.wrap (IntKind.u64.wrap (↑(BitVec.ofInt 64 (IntKind.u64.wrap (IntKind.u64.wrap (x.fdiv (2 ^ 32) * IntKind.u64.wrap (↑(BitVec.ofInt 64 y &&& BitVec.ofInt 64 4294967295).toNat : Int)) + (IntKind.u64.wrap (IntKind.u64.wrap (↑(BitVec.ofInt 64 x &&& BitVec.ofInt 64 4294967295).toNat : Int) * IntKind.u64.wrap (↑(BitVec.ofInt 64 y &&& BitVec.ofInt 64 4294967295).toNat : Int))).fdiv (2 ^ 32))) &&& BitVec.ofInt 64 4294967295).toNat : Int) + IntKind.u64.wrap (IntKind.u64.wrap (↑(BitVec.ofInt 64 x &&& BitVec.ofInt 64 4294967295).toNat : Int) * y.fdiv (2 ^ 32)))).fdiv (2 ^ 32)), IntKind.u64.wrap (x * y))
noncomputable def g93 (x y : Int) : Bool := (t93 x y).g
noncomputable def w93_0 (x y : Int) : Int := (t93 x y).val.1
noncomputable def w93_1 (x y : Int) : Int := (t93 x y).val.2
theorem eq93 (x y : Int) : evF Try.prog S0 (ro 93) (fun _ _ => none) Try.f93 [.i .u64 x, .i .u64 y] = (t93 x y).opt (fun (x : (Int) × (Int)) => (.tup [.i .u64 x.1, .i .u64 x.2] : AV)) := by kernel_rfl
theorem con93 (x y : Int) (h : g93 x y = true) : Con Try.prog 93 [.i .u64 x, .i .u64 y] [] (.tup [.i .u64 (w93_0 x y), .i .u64 (w93_1 x y)]) [] :=
  con_of S0_ok mixed Try.func93 (c := c93) rfl (names 93 _ Try.func93) lok93 ((eq93 x y).trans (Tr.sound _ _ h))
noncomputable def e93 (args : List AV) (rows : List Blk) : Option (Bool × AV × List Blk) := match args, rows with
  | [.i .u64 x, .i .u64 y], [] => some (g93 x y, .tup [.i .u64 (w93_0 x y), .i .u64 (w93_1 x y)], [])
  | _, _ => none
theorem e93_ok (args : List AV) (rows : List Blk) (pre : Bool) (v : AV) (rows' : List Blk) (h : e93 args rows = some (pre, v, rows')) (hp : pre = true) : Con Try.prog 93 args rows v rows' := by
  unfold e93 at h
  split at h
  · cases h; exact con93 _ _ hp
  · cases h
-- SPEC 93
end Go.Proofs.Ytgifjphinkbcaaa

set_option maxRecDepth 100000
set_option linter.unusedVariables false
namespace Go.Proofs.Ytgifjphinkbcaaa
open Go Go.Ev
noncomputable def SM1 : Ev.Spec := insS 93 e93 (S0)
theorem SM1_ok : SpecOK Try.prog SM1 := insS_ok e93_ok (S0_ok)
end Go.Proofs.Ytgifjphinkbcaaa

set_option maxRecDepth 100000
set_option maxHeartbeats 0
set_option linter.unusedVariables false
namespace Go.Proofs.Ytgifjphinkbcaaa
open Go Go.Ev

/-! ### bits.Mul -/
noncomputable def c90 : Code := match Try.f90.body with | some c => c | _ => .skip
theorem lok90 : LOK Try.prog SM1 (ro 90) (fun _ _ => none) 0 false c90 [] :=
  lok_lo (fun _ _ _ _ _ _ _ h _ => by cases h) c90 [] false (locate_nil _) (by kernel_rfl)
noncomputable def t90 (x y : Int) : Tr ((Int) × (Int)) :=
  .lf (w93_0 x y, w93_1 x y)
noncomputable def g90 (x y : Int) : Bool := (t90 x y).g
noncomputable def w90_0 (x y : Int) : Int := (t90 x y).val.1
noncomputable def w90_1 (x y : Int) : Int := (t90 x y).val.2
theorem eq90 (x y : Int) : evF Try.prog SM1 (ro 90) (fun _ _ => none) Try.f90 [.i .u64 x, .i .u64 y] = (t90 x y).opt (fun (x : (Int) × (Int)) => (.tup [.i .u64 x.1, .i .u64 x.2] : AV)) := by kernel_rfl
theorem con90 (x y : Int) (h : g90 x y = true) : Con Try.prog 90 [.i .u64 x, .i .u64 y] [] (.tup [.i .u64 (w90_0 x y), .i .u64 (w90_1 x y)]) [] :=
  con_of SM1_ok mixed Try.func90 (c := c90) rfl (names 90 _ Try.func90) lok90 ((eq90 x y).trans (Tr.sound _ _ h))
noncomputable def e90 (args : List AV) (rows : List Blk) : Option (Bool × AV × List Blk) := match args, rows with
  | [.i .u64 x, .i .u64 y], [] => some (g90 x y, .tup [.i .u64 (w90_0 x y), .i .u64 (w90_1 x y)], [])
  | _, _ => none
theorem e90_ok (args : List AV) (rows : List Blk) (pre : Bool) (v : AV) (rows' : List Blk) (h : e90 args rows = some (pre, v, rows')) (hp : pre = true) : Con Try.prog 90 args rows v rows' := by
  unfold e90 at h
  split at h
  · cases h; exact con90 _ _ hp
  · cases h
-- SPEC 90
end Go.Proofs.Ytgifjphinkbcaaa

set_option maxRecDepth 100000
set_option linter.unusedVariables false
namespace Go.Proofs.Ytgifjphinkbcaaa
open Go Go.Ev
noncomputable def SM2 : Ev.Spec := insS 90 e90 (SM1)
theorem SM2_ok : SpecOK Try.prog SM2 := insS_ok e90_ok (SM1_ok)
end Go.Proofs.Ytgifjphinkbcaaa
