/-
  The law RidgePlans of the roofer's ridges answers true whatever Rods it is handed; no conditions.
-/
import Derived.Test.YtgifjphinkbcaaaPe
import Derived.Test.YtgifjphinkbcaaaPd
import Derived.Test.YtgifjphinkbcaaaPc
import Derived.Test.YtgifjphinkbcaaaPf
set_option linter.unusedVariables false
set_option maxRecDepth 100000
set_option linter.unusedVariables false
namespace Go.Proofs.Ytgifjphinkbcaaa
open Go Go.Ev
/-! ### Sets of single cuts -/
/-- How many there are of a kind in a set. -/
def cB : List Nat → Nat → Nat → Int
  | [], _, _ => 0
  | c :: r, b, j => (if b % 2 = 1 then e1 c j else 0) + cB r (b / 2) j
def SubN : Nat → Nat → Nat → Prop
  | 0, s, b => s = 0 ∧ b = 0
  | n + 1, s, b => s % 2 ≤ b % 2 ∧ SubN n (s / 2) (b / 2)
theorem e1_nn (c j : Nat) : 0 ≤ e1 c j ∧ e1 c j ≤ 1 := by
  unfold e1
  split <;> omega
theorem cB_nn : ∀ (row : List Nat) (b j : Nat), 0 ≤ cB row b j
  | [], _, _ => Int.le_refl _
  | c :: r, b, j => by
    have h1 := cB_nn r (b / 2) j
    have h2 := e1_nn c j
    show 0 ≤ (if b % 2 = 1 then e1 c j else 0) + cB r (b / 2) j
    split <;> omega
theorem SubN.le : ∀ {n s b : Nat}, SubN n s b → s ≤ b
  | 0, s, b, h => by obtain ⟨rfl, rfl⟩ := h; exact Nat.le_refl _
  | n + 1, s, b, ⟨h1, h2⟩ => by have := SubN.le h2; omega
theorem SubN.lt : ∀ {n s b : Nat}, SubN n s b → b < 2 ^ n
  | 0, s, b, h => by obtain ⟨rfl, rfl⟩ := h; exact Nat.one_pos
  | n + 1, s, b, ⟨h1, h2⟩ => by
    have := SubN.lt h2
    rw [Nat.pow_succ]
    omega
theorem SubN.refl : ∀ {n b : Nat}, b < 2 ^ n → SubN n b b
  | 0, b, h => by
    have : b = 0 := by simpa using h
    exact ⟨this, this⟩
  | n + 1, b, h => ⟨Nat.le_refl _, SubN.refl (by rw [Nat.pow_succ] at h; omega)⟩
theorem SubN.and : ∀ {n : Nat} (x : Nat) {b : Nat}, b < 2 ^ n → SubN n (x &&& b) b
  | 0, x, b, h => by
    have : b = 0 := by simpa using h
    subst this
    exact ⟨Nat.and_zero x, rfl⟩
  | n + 1, x, b, h => by
    refine ⟨?_, ?_⟩
    · have e := Nat.and_mod_two_pow (a := x) (b := b) (n := 1)
      simp only [Nat.pow_one] at e
      rw [e]
      exact Nat.and_le_right
    · have e : (x &&& b) / 2 = (x / 2) &&& (b / 2) := Nat.and_div_two
      rw [e]
      exact SubN.and (x / 2) (by rw [Nat.pow_succ] at h; omega)
/-- The next lesser one. -/
theorem SubN.next : ∀ {n s p b : Nat}, SubN n s b → SubN n p b → s < p → s ≤ (p - 1) &&& b
  | 0, s, p, b, h1, h2, h => by
    obtain ⟨rfl, _⟩ := h2
    omega
  | n + 1, s, p, b, ⟨a1, a2⟩, ⟨b1, b2⟩, h => by
    have hb : b / 2 < 2 ^ n := a2.lt
    have e1 := Nat.and_mod_two_pow (a := p - 1) (b := b) (n := 1)
    simp only [Nat.pow_one] at e1
    have e2 : ((p - 1) &&& b) / 2 = ((p - 1) / 2) &&& (b / 2) := Nat.and_div_two
    rcases Nat.mod_two_eq_zero_or_one p with hp | hp
    · have hlt : s / 2 < p / 2 := by omega
      have ih := SubN.next a2 b2 hlt
      have q1 : (p - 1) / 2 = p / 2 - 1 := by omega
      have q2 : (p - 1) % 2 = 1 := by omega
      rw [q1] at e2
      rw [q2] at e1
      have e3 : 1 &&& b % 2 = b % 2 := by
        rcases Nat.mod_two_eq_zero_or_one b with h' | h' <;> rw [h'] <;> rfl
      rw [e3] at e1
      omega
    · have q1 : (p - 1) / 2 = p / 2 := by omega
      rw [q1] at e2
      have e3 : p / 2 &&& b / 2 = p / 2 := by
        have key : ∀ {n x y : Nat}, SubN n x y → x &&& y = x := by
          intro n
          induction n with
          | zero => rintro x y ⟨rfl, rfl⟩; rfl
          | succ n ih =>
            rintro x y ⟨h1, h2⟩
            have f1 := Nat.and_mod_two_pow (a := x) (b := y) (n := 1)
            simp only [Nat.pow_one] at f1
            have f2 : (x &&& y) / 2 = (x / 2) &&& (y / 2) := Nat.and_div_two
            rw [ih h2] at f2
            have f3 : x % 2 &&& y % 2 = x % 2 := by
              rcases Nat.mod_two_eq_zero_or_one x with h' | h' <;> rcases Nat.mod_two_eq_zero_or_one y with h'' | h'' <;> rw [h', h''] <;> first | rfl | omega
            rw [f3] at f1
            omega
        exact key b2
      rw [e3] at e2
      omega
theorem cB_sub : ∀ {row : List Nat} {s b : Nat}, SubN row.length s b → ∀ j, cB row s j ≤ cB row b j ∧ cB row (b - s) j = cB row b j - cB row s j
  | [], s, b, h, j => ⟨Int.le_refl _, rfl⟩
  | c :: r, s, b, ⟨h1, h2⟩, j => by
    obtain ⟨i1, i2⟩ := cB_sub h2 j
    have hle := h2.le
    have hs : (b - s) / 2 = b / 2 - s / 2 := by omega
    have hm : (b - s) % 2 = b % 2 - s % 2 := by omega
    have he := e1_nn c j
    show (if s % 2 = 1 then e1 c j else 0) + cB r (s / 2) j ≤ (if b % 2 = 1 then e1 c j else 0) + cB r (b / 2) j ∧ (if (b - s) % 2 = 1 then e1 c j else 0) + cB r ((b - s) / 2) j = (if b % 2 = 1 then e1 c j else 0) + cB r (b / 2) j - ((if s % 2 = 1 then e1 c j else 0) + cB r (s / 2) j)
    rw [hs, hm, i2]
    rcases Nat.mod_two_eq_zero_or_one s with h' | h' <;> rcases Nat.mod_two_eq_zero_or_one b with h'' | h'' <;> rw [h', h''] <;> simp <;> omega
/-- A pattern out of a set. -/
theorem cB_pick : ∀ {row : List Nat} {b : Nat} {P : Nat → Int}, b < 2 ^ row.length → (∀ j, 0 ≤ P j ∧ P j ≤ cB row b j) → ∃ s, SubN row.length s b ∧ (∀ j, cB row s j = P j) ∧ ∀ v, v < row.length → b % 2 ^ v = 0 → b / 2 ^ v % 2 = 1 → 0 < P (row.getD v 0) → s / 2 ^ v % 2 = 1
  | [], b, P, hb, h => by
    have : b = 0 := by simpa using hb
    subst this
    refine ⟨0, ⟨rfl, rfl⟩, fun j => ?_, fun v hv => by simp at hv⟩
    have h := h j
    simp only [cB] at h ⊢
    omega
  | c :: r, b, P, hb, h => by
    have hb' : b / 2 < 2 ^ r.length := by rw [List.length_cons, Nat.pow_succ] at hb; omega
    have hc : ∀ j, 0 ≤ P j ∧ P j ≤ (if b % 2 = 1 then e1 c j else 0) + cB r (b / 2) j := h
    by_cases hx : b % 2 = 1 ∧ 0 < P c
    · obtain ⟨hx, hp⟩ := hx
      simp only [if_pos hx] at hc
      obtain ⟨s, h1, h2, h3⟩ := cB_pick (row := r) (b := b / 2) (P := fun j => P j - e1 c j) hb' (fun j => by
        have := hc j
        have e := e1_nn c j
        by_cases hj : j = c
        · subst hj
          have : e1 j j = 1 := if_pos rfl
          omega
        · have : e1 c j = 0 := if_neg hj
          omega)
      refine ⟨2 * s + 1, ⟨by omega, by rw [show (2 * s + 1) / 2 = s by omega]; exact h1⟩, fun j => ?_, fun v hv hv1 hv2 hv3 => ?_⟩
      · show (if (2 * s + 1) % 2 = 1 then e1 c j else 0) + cB r ((2 * s + 1) / 2) j = P j
        rw [if_pos (by omega), show (2 * s + 1) / 2 = s by omega, h2 j]
        omega
      · cases v with
        | zero => rw [Nat.pow_zero, Nat.div_one]; omega
        | succ v =>
          exfalso
          rw [Nat.pow_succ] at hv1
          have : 2 ∣ b := Nat.dvd_trans (Nat.dvd_mul_left 2 _) (Nat.dvd_of_mod_eq_zero hv1)
          omega
    · obtain ⟨s, h1, h2, h3⟩ := cB_pick (row := r) (b := b / 2) (P := P) hb' (fun j => by
        have := hc j
        have e := e1_nn c j
        refine ⟨this.1, ?_⟩
        by_cases hb1 : b % 2 = 1
        · rw [if_pos hb1] at this
          by_cases hj : j = c
          · subst hj
            have h0 : ¬ 0 < P j := fun h' => hx ⟨hb1, h'⟩
            have := cB_nn r (b / 2) j
            omega
          · have : e1 c j = 0 := if_neg hj
            omega
        · rw [if_neg hb1] at this
          omega)
      refine ⟨2 * s, ⟨by omega, by rw [show (2 * s) / 2 = s by omega]; exact h1⟩, fun j => ?_, fun v hv hv1 hv2 hv3 => ?_⟩
      · show (if (2 * s) % 2 = 1 then e1 c j else 0) + cB r ((2 * s) / 2) j = P j
        rw [if_neg (by omega), show (2 * s) / 2 = s by omega, h2 j]
        omega
      · cases v with
        | zero =>
          exfalso
          rw [Nat.pow_zero, Nat.div_one] at hv2
          exact hx ⟨hv2, hv3⟩
        | succ v =>
          rw [Nat.pow_succ, Nat.mul_comm, ← Nat.div_div_eq_div_mul] at hv2
          rw [Nat.pow_succ, Nat.mul_comm (2 ^ v) 2, ← Nat.div_div_eq_div_mul, show 2 * s / 2 = s by omega]
          refine h3 v (by simpa using hv) ?_ hv2 hv3
          rw [Nat.pow_succ] at hv1
          obtain ⟨d, hd⟩ := Nat.dvd_of_mod_eq_zero hv1
          have : b / 2 = 2 ^ v * d := by
            rw [hd, Nat.mul_assoc, Nat.mul_left_comm, Nat.mul_div_cancel_left _ (by omega)]
          rw [this]
          exact Nat.mul_mod_right _ _
theorem cB_bit : ∀ {row : List Nat} {b v : Nat}, v < row.length → b / 2 ^ v % 2 = 1 → 0 < cB row b (row.getD v 0)
  | c :: r, b, 0, _, h => by
    rw [Nat.pow_zero, Nat.div_one] at h
    show 0 < (if b % 2 = 1 then e1 c c else 0) + cB r (b / 2) c
    rw [if_pos h, show e1 c c = 1 from if_pos rfl]
    have := cB_nn r (b / 2) c
    omega
  | c :: r, b, v + 1, hv, h => by
    rw [Nat.pow_succ, Nat.mul_comm, ← Nat.div_div_eq_div_mul] at h
    have ih := cB_bit (row := r) (b := b / 2) (v := v) (by simpa using hv) h
    show 0 < (if b % 2 = 1 then e1 c (r.getD v 0) else 0) + cB r (b / 2) (r.getD v 0)
    have := e1_nn c (r.getD v 0)
    split <;> omega
theorem cB_full : ∀ (row : List Nat) (j : Nat), cB row (2 ^ row.length - 1) j = (row.count j : Int)
  | [], j => rfl
  | c :: r, j => by
    have h1 : 0 < 2 ^ r.length := Nat.two_pow_pos _
    have hp : 2 ^ (c :: r).length = 2 * 2 ^ r.length := by rw [List.length_cons, Nat.pow_succ, Nat.mul_comm]
    show (if (2 ^ (c :: r).length - 1) % 2 = 1 then e1 c j else 0) + cB r ((2 ^ (c :: r).length - 1) / 2) j = _
    rw [hp, if_pos (by omega), show (2 * 2 ^ r.length - 1) / 2 = 2 ^ r.length - 1 by omega, cB_full r j, List.count_cons]
    unfold e1
    by_cases h : j = c
    · subst h
      simp
      omega
    · rw [if_neg h]
      have : (c == j) = false := by simpa using fun e => h e.symm
      rw [this]
      simp
theorem TT_cB {N : Nat} : ∀ {row : List Nat} {b : Nat}, TT (cB row b) N ≤ (row.length : Int)
  | [], b => by
    have : TT (cB [] b) N = 0 := by
      induction N with
      | zero => rfl
      | succ n ih => show TT _ n + 0 = 0; rw [ih]; rfl
    rw [this]
    exact Int.le_refl _
  | c :: r, b => by
    have ih := TT_cB (N := N) (row := r) (b := b / 2)
    have e : TT (cB (c :: r) b) N = (if b % 2 = 1 then TT (e1 c) N else 0) + TT (cB r (b / 2)) N := by
      by_cases h : b % 2 = 1
      · rw [if_pos h]
        clear ih
        induction N with
        | zero => rfl
        | succ n ih' =>
          show TT _ n + ((if b % 2 = 1 then e1 c n else 0) + cB r (b / 2) n) = TT (e1 c) n + e1 c n + (TT _ n + cB r (b / 2) n)
          rw [ih', if_pos h]
          omega
      · rw [if_neg h]
        clear ih
        induction N with
        | zero => rfl
        | succ n ih' =>
          show TT _ n + ((if b % 2 = 1 then e1 c n else 0) + cB r (b / 2) n) = 0 + (TT _ n + cB r (b / 2) n)
          rw [ih', if_neg h]
          omega
    have h1 : (if c < N then (1 : Int) else 0) ≤ 1 := by split <;> omega
    rw [e, TT_e1, List.length_cons]
    split <;> omega
theorem DD_cB {db : Int} {cs ws : List (List AV)} : ∀ {row : List Nat} {b : Nat}, (∀ j, j ∈ row → j < cs.length) → DD db cs (cB row b) cs.length = szB (Lz db cs ws row) b
  | [], b, _ => DD_zero fun _ _ => rfl
  | c :: r, b, h => by
    have ih := DD_cB (db := db) (cs := cs) (ws := ws) (row := r) (b := b / 2) (fun j hj => h j (by simp [hj]))
    show _ = (if b % 2 = 1 then ln cs c + db else 0) + szB (Lz db cs ws r) (b / 2)
    rw [← ih]
    by_cases hb : b % 2 = 1
    · rw [if_pos hb]
      have : DD db cs (cB (c :: r) b) cs.length = DD db cs (fun i => e1 c i + cB r (b / 2) i) cs.length := DD_congr fun i _ => by
        show (if b % 2 = 1 then e1 c i else 0) + _ = _
        rw [if_pos hb]
      rw [this, DD_add, DD_e1, if_pos (h c (by simp))]
    · rw [if_neg hb]
      have : DD db cs (cB (c :: r) b) cs.length = DD db cs (cB r (b / 2)) cs.length := DD_congr fun i _ => by
        show (if b % 2 = 1 then e1 c i else 0) + _ = _
        rw [if_neg hb]; omega
      rw [this]; omega
end Go.Proofs.Ytgifjphinkbcaaa

set_option maxRecDepth 100000
set_option linter.unusedVariables false
namespace Go.Proofs.Ytgifjphinkbcaaa
open Go Go.Ev
noncomputable def SA4 : Ev.Spec := insS 80 e80 (insS 79 e79 (S0))
theorem SA4_ok : SpecOK Try.prog SA4 := insS_ok e80_ok (insS_ok e79_ok (S0_ok))
end Go.Proofs.Ytgifjphinkbcaaa

set_option maxRecDepth 100000
set_option maxHeartbeats 0
set_option linter.unusedVariables false
namespace Go.Proofs.Ytgifjphinkbcaaa
open Go Go.Ev

/-! ### Fewest -/
noncomputable def c47 : Code := match Try.f47.body with | some c => c | _ => .skip
noncomputable def lp47a : Code := loopAt c47 [true, true, true, true, false, true, false]
noncomputable def s47a (t2 : Int) (t3 : List (List AV)) (t4 : List (List AV)) (t5 : Nat) (t6 : Int) (m11 : List (List AV)) : St :=
  { t := [(2, .i .i64 t2), (3, .rs 3 t3), (4, .rs 4 t4), (5, .sl 11 0 t5), (6, .i .i64 t6)], m := [(0, .dead), (1, .dead), (2, .dead), (3, .dead), (4, .dead), (5, .dead), (6, .dead), (7, .dead), (8, .dead), (9, .dead), (10, .dead), (11, .row 3 m11)], nx := 12, nt := 70 }
noncomputable def lp47aa : Code := loopAt c47 [true, true, true, true, false, true, false, false, true, false, false, true, true, true, false]
noncomputable def s47aa (t2 : Int) (t3 : List (List AV)) (t4 : List (List AV)) (t5 : Nat) (t6 : Int) (t7 : Int) (t8 : Int) (m11 : List (List AV)) : St :=
  { t := [(2, .i .i64 t2), (3, .rs 3 t3), (4, .rs 4 t4), (5, .sl 11 0 t5), (6, .i .i64 t6), (7, .i .i64 t7), (8, .i .i64 t8)], m := [(0, .dead), (1, .dead), (2, .dead), (3, .dead), (4, .dead), (5, .dead), (6, .dead), (7, .dead), (8, .dead), (9, .dead), (10, .dead), (11, .row 3 m11)], nx := 12, nt := 70 }
structure S47aa where
  t8 : Int
  m11 : List (List AV)
inductive T47aa where
  | x0 (t8 : Int) (m11 : List (List AV))
noncomputable def stp47aa (t2 : Int) (t3 : List (List AV)) (t4 : List (List AV)) (t5 : Nat) (t6 : Int) (t7 : Int) (t8 : Int) (m11 : List (List AV)) : Lp S47aa T47aa :=
  cond (decide (t8 > 0)) (cond (IntKind.i64.wrap (↑(BitVec.ofInt 64 t8 &&& BitVec.ofInt 64 t7).toNat : Int) != 0) (cond (inb t8 t4.length) (cond (fB (t4.getD t8.toNat []) 0) (cond (inb t6 t5 && (0 + t6.toNat).blt m11.length) (cond ((0 + t6.toNat).blt m11.length) (cond (inb (IntKind.i64.wrap (t6 - t8)) t5 && (0 + (IntKind.i64.wrap (t6 - t8)).toNat).blt m11.length) (cond ((0 + (IntKind.i64.wrap (t6 - t8)).toNat).blt m11.length) (cond (inb t6 t5 && (0 + t6.toNat).blt m11.length) (cond ((0 + t6.toNat).blt m11.length) (.go ⟨IntKind.i64.wrap (↑(BitVec.ofInt 64 (IntKind.i64.wrap (t8 - 1)) &&& BitVec.ofInt 64 t6).toNat : Int), m11.set (0 + t6.toNat) (setCs (m11.getD (0 + t6.toNat) []) 0 [AV.i IntKind.i64 (bmin (fI (m11.getD (0 + t6.toNat) []) 0) (IntKind.i64.wrap (1 + fI (m11.getD (0 + (IntKind.i64.wrap (t6 - t8)).toNat) []) 0)))])⟩) (.bad)) (.bad)) (.bad)) (.bad)) (.bad)) (.bad)) (.go ⟨IntKind.i64.wrap (↑(BitVec.ofInt 64 (IntKind.i64.wrap (t8 - 1)) &&& BitVec.ofInt 64 t6).toNat : Int), m11⟩)) (.bad)) (.go ⟨IntKind.i64.wrap (↑(BitVec.ofInt 64 (IntKind.i64.wrap (t8 - 1)) &&& BitVec.ofInt 64 t6).toNat : Int), m11⟩)) (.out (.x0 t8 m11))
noncomputable def o47aa_0 (t2 : Int) (t3 : List (List AV)) (t4 : List (List AV)) (t5 : Nat) (t6 : Int) (t7 : Int) (t8 : Int) (m11 : List (List AV)) : St :=
  { t := [(2, .i .i64 t2), (3, .rs 3 t3), (4, .rs 4 t4), (5, .sl 11 0 t5), (6, .i .i64 t6), (7, .i .i64 t7), (8, .i .i64 t8)], m := [(0, .dead), (1, .dead), (2, .dead), (3, .dead), (4, .dead), (5, .dead), (6, .dead), (7, .dead), (8, .dead), (9, .dead), (10, .dead), (11, .row 3 m11)], nx := 12, nt := 70 }
noncomputable def ou47aa (t2 : Int) (t3 : List (List AV)) (t4 : List (List AV)) (t5 : Nat) (t6 : Int) (t7 : Int) : T47aa → Ex × St
  | .x0 t8 m11 => (.ext 2, o47aa_0 t2 t3 t4 t5 t6 t7 t8 m11)
noncomputable def r47aa (t2 : Int) (t3 : List (List AV)) (t4 : List (List AV)) (t5 : Nat) (t6 : Int) (t7 : Int) (t8 : Int) (m11 : List (List AV)) : Option T47aa := run (fun x => stp47aa t2 t3 t4 t5 t6 t7 x.t8 x.m11) (⟨t8, m11⟩ : S47aa)
noncomputable def i47aa_0 (t2 : Int) (t3 : List (List AV)) (t4 : List (List AV)) (t5 : Nat) (t6 : Int) (t7 : Int) (t8 : Int) (m11 : List (List AV)) : Bool := match r47aa t2 t3 t4 t5 t6 t7 t8 m11 with
  | some (.x0 _ _) => true
  | _ => false
noncomputable def v47aa_0_t8 (t2 : Int) (t3 : List (List AV)) (t4 : List (List AV)) (t5 : Nat) (t6 : Int) (t7 : Int) (t8 : Int) (m11 : List (List AV)) : Int := match r47aa t2 t3 t4 t5 t6 t7 t8 m11 with
  | some (.x0 t8 _) => t8
  | _ => default
noncomputable def v47aa_0_m11 (t2 : Int) (t3 : List (List AV)) (t4 : List (List AV)) (t5 : Nat) (t6 : Int) (t7 : Int) (t8 : Int) (m11 : List (List AV)) : List (List AV) := match r47aa t2 t3 t4 t5 t6 t7 t8 m11 with
  | some (.x0 _ m11) => m11
  | _ => default
noncomputable def l47aa (st : St) : Option (List (Bool × Ex × St)) := match normW Try.prog [(2, none), (3, none), (4, none), (5, none), (6, none), (7, none), (8, none)] 12 st with
  | some ([.i .i64 t2, .rs 3 t3, .rs 4 t4, .sl 11 0 t5, .i .i64 t6, .i .i64 t7, .i .i64 t8], [(0, .dead), (1, .dead), (2, .dead), (3, .dead), (4, .dead), (5, .dead), (6, .dead), (7, .dead), (8, .dead), (9, .dead), (10, .dead), (11, .row 3 m11)], 12, 70) => some [(i47aa_0 t2 t3 t4 t5 t6 t7 t8 m11, .ext 2, o47aa_0 t2 t3 t4 t5 t6 t7 (v47aa_0_t8 t2 t3 t4 t5 t6 t7 t8 m11) (v47aa_0_m11 t2 t3 t4 t5 t6 t7 t8 m11))]
  | _ => none
structure S47a where
  t6 : Int
  m11 : List (List AV)
inductive T47a where
  | x0 (t6 : Int) (m11 : List (List AV))
noncomputable def stp47a (t2 : Int) (t3 : List (List AV)) (t4 : List (List AV)) (t5 : Nat) (t6 : Int) (m11 : List (List AV)) : Lp S47a T47a :=
  cond (decide (t6 < (↑t4.length : Int))) (cond (inb t6 t5 && (0 + t6.toNat).blt m11.length) (cond ((0 + t6.toNat).blt m11.length) (cond (i47aa_0 t2 t3 t4 t5 t6 (IntKind.i64.wrap (↑(BitVec.ofInt 64 t6 &&& BitVec.ofInt 64 (IntKind.i64.wrap (0 - t6))).toNat : Int)) t6 (m11.set (0 + t6.toNat) (setCs (m11.getD (0 + t6.toNat) []) 0 [AV.i IntKind.i64 (↑t3.length : Int)]))) (.go ⟨IntKind.i64.wrap (t6 + 1), v47aa_0_m11 t2 t3 t4 t5 t6 (IntKind.i64.wrap (↑(BitVec.ofInt 64 t6 &&& BitVec.ofInt 64 (IntKind.i64.wrap (0 - t6))).toNat : Int)) t6 (m11.set (0 + t6.toNat) (setCs (m11.getD (0 + t6.toNat) []) 0 [AV.i IntKind.i64 (↑t3.length : Int)]))⟩) (.bad)) (.bad)) (.bad)) (.out (.x0 t6 m11))
noncomputable def o47a_0 (t2 : Int) (t3 : List (List AV)) (t4 : List (List AV)) (t5 : Nat) (t6 : Int) (m11 : List (List AV)) : St :=
  { t := [(2, .i .i64 t2), (3, .rs 3 t3), (4, .rs 4 t4), (5, .sl 11 0 t5), (6, .i .i64 t6)], m := [(0, .dead), (1, .dead), (2, .dead), (3, .dead), (4, .dead), (5, .dead), (6, .dead), (7, .dead), (8, .dead), (9, .dead), (10, .dead), (11, .row 3 m11)], nx := 12, nt := 70 }
noncomputable def ou47a (t2 : Int) (t3 : List (List AV)) (t4 : List (List AV)) (t5 : Nat) : T47a → Ex × St
  | .x0 t6 m11 => (.ext 0, o47a_0 t2 t3 t4 t5 t6 m11)
noncomputable def r47a (t2 : Int) (t3 : List (List AV)) (t4 : List (List AV)) (t5 : Nat) (t6 : Int) (m11 : List (List AV)) : Option T47a := run (fun x => stp47a t2 t3 t4 t5 x.t6 x.m11) (⟨t6, m11⟩ : S47a)
noncomputable def i47a_0 (t2 : Int) (t3 : List (List AV)) (t4 : List (List AV)) (t5 : Nat) (t6 : Int) (m11 : List (List AV)) : Bool := match r47a t2 t3 t4 t5 t6 m11 with
  | some (.x0 _ _) => true
  | _ => false
noncomputable def v47a_0_t6 (t2 : Int) (t3 : List (List AV)) (t4 : List (List AV)) (t5 : Nat) (t6 : Int) (m11 : List (List AV)) : Int := match r47a t2 t3 t4 t5 t6 m11 with
  | some (.x0 t6 _) => t6
  | _ => default
noncomputable def v47a_0_m11 (t2 : Int) (t3 : List (List AV)) (t4 : List (List AV)) (t5 : Nat) (t6 : Int) (m11 : List (List AV)) : List (List AV) := match r47a t2 t3 t4 t5 t6 m11 with
  | some (.x0 _ m11) => m11
  | _ => default
noncomputable def l47a (st : St) : Option (List (Bool × Ex × St)) := match normW Try.prog [(2, none), (3, none), (4, none), (5, none), (6, none)] 12 st with
  | some ([.i .i64 t2, .rs 3 t3, .rs 4 t4, .sl 11 0 t5, .i .i64 t6], [(0, .dead), (1, .dead), (2, .dead), (3, .dead), (4, .dead), (5, .dead), (6, .dead), (7, .dead), (8, .dead), (9, .dead), (10, .dead), (11, .row 3 m11)], 12, 70) => some [(i47a_0 t2 t3 t4 t5 t6 m11, .ext 0, o47a_0 t2 t3 t4 t5 (v47a_0_t6 t2 t3 t4 t5 t6 m11) (v47a_0_m11 t2 t3 t4 t5 t6 m11))]
  | _ => none
noncomputable def L47 : LSpec := fun p st => match p with
  | [false, true, true, true, false, false, true, false, false, true, false, true, true, true, true] => l47aa st
  | [false, true, false, true, true, true, true] => l47a st
  | _ => none
theorem is47aa_0 (t2 : Int) (t3 : List (List AV)) (t4 : List (List AV)) (t5 : Nat) (t6 : Int) (t7 : Int) (t8 : Int) (m11 : List (List AV)) (h : i47aa_0 t2 t3 t4 t5 t6 t7 t8 m11 = true) : r47aa t2 t3 t4 t5 t6 t7 t8 m11 = some (.x0 (v47aa_0_t8 t2 t3 t4 t5 t6 t7 t8 m11) (v47aa_0_m11 t2 t3 t4 t5 t6 t7 t8 m11)) := by
  unfold i47aa_0 at h
  unfold v47aa_0_t8 v47aa_0_m11
  generalize r47aa t2 t3 t4 t5 t6 t7 t8 m11 = r at h ⊢
  rcases r with _ | y
  · cases h
  · cases y <;> first | rfl | cases h
theorem round47aa (t2 : Int) (t3 : List (List AV)) (t4 : List (List AV)) (t5 : Nat) (t6 : Int) (t7 : Int) (t8 : Int) (m11 : List (List AV)) : round Try.prog SA4 (ro 47) L47 lp47aa [false, true, true, true, false, false, true, false, false, true, false, true, true, true, true] [(2, none), (3, none), (4, none), (5, none), (6, none), (7, none), (8, none)] 12 (s47aa t2 t3 t4 t5 t6 t7 t8 m11) =
    cond (decide (t8 > 0)) (cond (IntKind.i64.wrap (↑(BitVec.ofInt 64 t8 &&& BitVec.ofInt 64 t7).toNat : Int) != 0) (cond (inb t8 t4.length) (cond (fB (t4.getD t8.toNat []) 0) (cond (inb t6 t5 && (0 + t6.toNat).blt m11.length) (cond ((0 + t6.toNat).blt m11.length) (cond (inb (IntKind.i64.wrap (t6 - t8)) t5 && (0 + (IntKind.i64.wrap (t6 - t8)).toNat).blt m11.length) (cond ((0 + (IntKind.i64.wrap (t6 - t8)).toNat).blt m11.length) (cond (inb t6 t5 && (0 + t6.toNat).blt m11.length) (cond ((0 + t6.toNat).blt m11.length) (some (.nrm, s47aa t2 t3 t4 t5 t6 t7 (IntKind.i64.wrap (↑(BitVec.ofInt 64 (IntKind.i64.wrap (t8 - 1)) &&& BitVec.ofInt 64 t6).toNat : Int)) (m11.set (0 + t6.toNat) (setCs (m11.getD (0 + t6.toNat) []) 0 [AV.i IntKind.i64 (bmin (fI (m11.getD (0 + t6.toNat) []) 0) (IntKind.i64.wrap (1 + fI (m11.getD (0 + (IntKind.i64.wrap (t6 - t8)).toNat) []) 0)))])))) (none)) (none)) (none)) (none)) (none)) (none)) (some (.nrm, s47aa t2 t3 t4 t5 t6 t7 (IntKind.i64.wrap (↑(BitVec.ofInt 64 (IntKind.i64.wrap (t8 - 1)) &&& BitVec.ofInt 64 t6).toNat : Int)) m11))) (none)) (some (.nrm, s47aa t2 t3 t4 t5 t6 t7 (IntKind.i64.wrap (↑(BitVec.ofInt 64 (IntKind.i64.wrap (t8 - 1)) &&& BitVec.ofInt 64 t6).toNat : Int)) m11))) (some (.ext 2, o47aa_0 t2 t3 t4 t5 t6 t7 t8 m11)) := by kernel_rfl
theorem rnd47aa (t2 : Int) (t3 : List (List AV)) (t4 : List (List AV)) (t5 : Nat) (t6 : Int) (t7 : Int) (x : S47aa) : round Try.prog SA4 (ro 47) L47 lp47aa [false, true, true, true, false, false, true, false, false, true, false, true, true, true, true] [(2, none), (3, none), (4, none), (5, none), (6, none), (7, none), (8, none)] 12 ((fun x => s47aa t2 t3 t4 t5 t6 t7 x.t8 x.m11) x) = toR (fun x => s47aa t2 t3 t4 t5 t6 t7 x.t8 x.m11) (ou47aa t2 t3 t4 t5 t6 t7) (stp47aa t2 t3 t4 t5 t6 t7 x.t8 x.m11) := by
  refine (round47aa _ _ _ _ _ _ _ _ ).trans ?_
  unfold stp47aa
  simp only [toR_cond]
  rfl
theorem lok47aa {st : St} {outs : List (Bool × Ex × St)} {e : Ex} {s : St} (hl : l47aa st = some outs) (hch : Chosen outs e s) :
    ∃ keep nb, 0 ≤ nb ∧ LB Try.prog SA4 (ro 47) L47 lp47aa [false, true, true, true, false, false, true, false, false, true, false, true, true, true, true] keep nb st e s := by
  unfold l47aa at hl
  split at hl
  · rename_i t2 t3 t4 t5 t6 t7 t8 m11 hno
    cases hl
    have hno := normW_norm hno
    refine ⟨_, _, ?_, .enter hno ?_⟩
    · decide
    have main := fun y h => LB_run (x := (⟨t8, m11⟩ : S47aa)) (y := y) (nb := 12) (fun y => by cases y <;> simp [ou47aa]) (rnd47aa t2 t3 t4 t5 t6 t7) h
    obtain ⟨x, hx, hg, rfl, rfl⟩ := chosen_any hch
    simp only [List.mem_cons, List.not_mem_nil, or_false] at hx
    subst hx
    exact main _ (is47aa_0 t2 t3 t4 t5 t6 t7 t8 m11 hg)
  · cases hl
theorem is47a_0 (t2 : Int) (t3 : List (List AV)) (t4 : List (List AV)) (t5 : Nat) (t6 : Int) (m11 : List (List AV)) (h : i47a_0 t2 t3 t4 t5 t6 m11 = true) : r47a t2 t3 t4 t5 t6 m11 = some (.x0 (v47a_0_t6 t2 t3 t4 t5 t6 m11) (v47a_0_m11 t2 t3 t4 t5 t6 m11)) := by
  unfold i47a_0 at h
  unfold v47a_0_t6 v47a_0_m11
  generalize r47a t2 t3 t4 t5 t6 m11 = r at h ⊢
  rcases r with _ | y
  · cases h
  · cases y <;> first | rfl | cases h
theorem round47a (t2 : Int) (t3 : List (List AV)) (t4 : List (List AV)) (t5 : Nat) (t6 : Int) (m11 : List (List AV)) : round Try.prog SA4 (ro 47) L47 lp47a [false, true, false, true, true, true, true] [(2, none), (3, none), (4, none), (5, none), (6, none)] 12 (s47a t2 t3 t4 t5 t6 m11) =
    cond (decide (t6 < (↑t4.length : Int))) (cond (inb t6 t5 && (0 + t6.toNat).blt m11.length) (cond ((0 + t6.toNat).blt m11.length) (cond (i47aa_0 t2 t3 t4 t5 t6 (IntKind.i64.wrap (↑(BitVec.ofInt 64 t6 &&& BitVec.ofInt 64 (IntKind.i64.wrap (0 - t6))).toNat : Int)) t6 (m11.set (0 + t6.toNat) (setCs (m11.getD (0 + t6.toNat) []) 0 [AV.i IntKind.i64 (↑t3.length : Int)]))) (some (.nrm, s47a t2 t3 t4 t5 (IntKind.i64.wrap (t6 + 1)) (v47aa_0_m11 t2 t3 t4 t5 t6 (IntKind.i64.wrap (↑(BitVec.ofInt 64 t6 &&& BitVec.ofInt 64 (IntKind.i64.wrap (0 - t6))).toNat : Int)) t6 (m11.set (0 + t6.toNat) (setCs (m11.getD (0 + t6.toNat) []) 0 [AV.i IntKind.i64 (↑t3.length : Int)]))))) (none)) (none)) (none)) (some (.ext 0, o47a_0 t2 t3 t4 t5 t6 m11)) := by kernel_rfl
theorem rnd47a (t2 : Int) (t3 : List (List AV)) (t4 : List (List AV)) (t5 : Nat) (x : S47a) : round Try.prog SA4 (ro 47) L47 lp47a [false, true, false, true, true, true, true] [(2, none), (3, none), (4, none), (5, none), (6, none)] 12 ((fun x => s47a t2 t3 t4 t5 x.t6 x.m11) x) = toR (fun x => s47a t2 t3 t4 t5 x.t6 x.m11) (ou47a t2 t3 t4 t5) (stp47a t2 t3 t4 t5 x.t6 x.m11) := by
  refine (round47a _ _ _ _ _ _ ).trans ?_
  unfold stp47a
  simp only [toR_cond]
  rfl
theorem lok47a {st : St} {outs : List (Bool × Ex × St)} {e : Ex} {s : St} (hl : l47a st = some outs) (hch : Chosen outs e s) :
    ∃ keep nb, 0 ≤ nb ∧ LB Try.prog SA4 (ro 47) L47 lp47a [false, true, false, true, true, true, true] keep nb st e s := by
  unfold l47a at hl
  split at hl
  · rename_i t2 t3 t4 t5 t6 m11 hno
    cases hl
    have hno := normW_norm hno
    refine ⟨_, _, ?_, .enter hno ?_⟩
    · decide
    have main := fun y h => LB_run (x := (⟨t6, m11⟩ : S47a)) (y := y) (nb := 12) (fun y => by cases y <;> simp [ou47a]) (rnd47a t2 t3 t4 t5) h
    obtain ⟨x, hx, hg, rfl, rfl⟩ := chosen_any hch
    simp only [List.mem_cons, List.not_mem_nil, or_false] at hx
    subst hx
    exact main _ (is47a_0 t2 t3 t4 t5 t6 m11 hg)
  · cases hl
theorem L47_ok (q : Pl) (c : Code) (hq : locate c47 q.reverse = some (.loop c)) (st : St) (outs : List (Bool × Ex × St)) (e : Ex) (s : St) (hl : L47 q st = some outs) (hch : Chosen outs e s) :
    ∃ keep nb, 0 ≤ nb ∧ LB Try.prog SA4 (ro 47) L47 c q keep nb st e s := by
  unfold L47 at hl
  split at hl
  · have : locate c47 ([false, true, true, true, false, false, true, false, false, true, false, true, true, true, true] : Pl).reverse = some (.loop lp47aa) := by kernel_rfl
    rw [this] at hq
    cases hq
    exact lok47aa hl hch
  · have : locate c47 ([false, true, false, true, true, true, true] : Pl).reverse = some (.loop lp47a) := by kernel_rfl
    rw [this] at hq
    cases hq
    exact lok47a hl hch
  · cases hl
theorem lok47 : LOK Try.prog SA4 (ro 47) L47 0 false c47 [] :=
  lok_lo L47_ok c47 [] false (locate_nil _) (by kernel_rfl)
noncomputable def t47 (da db : Int) (cs : List (List AV)) : Tr ((Int)) :=
  .cn (g79 da db cs) (.cn (g80 da db cs (w79_0 da db cs)) (.cn (decide ((↑(w80_0 da db cs (w79_0 da db cs)).length : Int) = (↑(w80_0 da db cs (w79_0 da db cs)).length : Int)) && (decide (0 ≤ (↑(w80_0 da db cs (w79_0 da db cs)).length : Int)) && decide ((↑(w80_0 da db cs (w79_0 da db cs)).length : Int) * (↑8 : Int) ≤ 140737488355328) && decide ((↑(w80_0 da db cs (w79_0 da db cs)).length : Int) ≤ 9223372036854775807))) (.cn (i47a_0 0 (w79_0 da db cs) (w80_0 da db cs (w79_0 da db cs)) (↑(w80_0 da db cs (w79_0 da db cs)).length : Int).toNat 1 (List.replicate (↑(w80_0 da db cs (w79_0 da db cs)).length : Int).toNat [AV.i IntKind.i64 0])) (.cn (inb (IntKind.i64.wrap ((↑(w80_0 da db cs (w79_0 da db cs)).length : Int) - 1)) (↑(w80_0 da db cs (w79_0 da db cs)).length : Int).toNat && (0 + (IntKind.i64.wrap ((↑(w80_0 da db cs (w79_0 da db cs)).length : Int) - 1)).toNat).blt (v47a_0_m11 0 (w79_0 da db cs) (w80_0 da db cs (w79_0 da db cs)) (↑(w80_0 da db cs (w79_0 da db cs)).length : Int).toNat 1 (List.replicate (↑(w80_0 da db cs (w79_0 da db cs)).length : Int).toNat [AV.i IntKind.i64 0])).length) (.cn ((0 + (IntKind.i64.wrap ((↑(w80_0 da db cs (w79_0 da db cs)).length : Int) - 1)).toNat).blt (v47a_0_m11 0 (w79_0 da db cs) (w80_0 da db cs (w79_0 da db cs)) (↑(w80_0 da db cs (w79_0 da db cs)).length : Int).toNat 1 (List.replicate (↑(w80_0 da db cs (w79_0 da db cs)).length : Int).toNat [AV.i IntKind.i64 0])).length) (.lf (fI ((v47a_0_m11 0 (w79_0 da db cs) (w80_0 da db cs (w79_0 da db cs)) (↑(w80_0 da db cs (w79_0 da db cs)).length : Int).toNat 1 (List.replicate (↑(w80_0 da db cs (w79_0 da db cs)).length : Int).toNat [AV.i IntKind.i64 0])).getD (0 + (IntKind.i64.wrap ((↑(w80_0 da db cs (w79_0 da db cs)).length : Int) - 1)).toNat) []) 0)) (.nn)) (.nn)) (.nn)) (.nn)) (.nn)) (.nn)
noncomputable def g47 (da db : Int) (cs : List (List AV)) : Bool := (t47 da db cs).g
noncomputable def w47_0 (da db : Int) (cs : List (List AV)) : Int := (t47 da db cs).val
theorem eq47 (da db : Int) (cs : List (List AV)) : evF Try.prog SA4 (ro 47) L47 Try.f47 [.agg [.i .i64 da, .i .i64 db, .rs 64 cs]] = (t47 da db cs).opt (fun (x : (Int)) => (.i .i64 x : AV)) := by kernel_rfl
theorem con47 (da db : Int) (cs : List (List AV)) (h : g47 da db cs = true) : Con Try.prog 47 [.agg [.i .i64 da, .i .i64 db, .rs 64 cs]] [] (.i .i64 (w47_0 da db cs)) [] :=
  con_of SA4_ok mixed Try.func47 (c := c47) rfl (names 47 _ Try.func47) lok47 ((eq47 da db cs).trans (Tr.sound _ _ h))
noncomputable def e47 (args : List AV) (rows : List Blk) : Option (Bool × AV × List Blk) := match args, rows with
  | [.agg [.i .i64 da, .i .i64 db, .rs 64 cs]], [] => some (g47 da db cs, .i .i64 (w47_0 da db cs), [])
  | _, _ => none
theorem e47_ok (args : List AV) (rows : List Blk) (pre : Bool) (v : AV) (rows' : List Blk) (h : e47 args rows = some (pre, v, rows')) (hp : pre = true) : Con Try.prog 47 args rows v rows' := by
  unfold e47 at h
  split at h
  · cases h; exact con47 _ _ _ hp
  · cases h
-- SPEC 47
end Go.Proofs.Ytgifjphinkbcaaa

set_option maxRecDepth 100000
set_option linter.unusedVariables false
namespace Go.Proofs.Ytgifjphinkbcaaa
open Go Go.Ev
/-! ### Fewest -/
theorem ofInt_nat (x : Nat) (hx : x < 18446744073709551616) : (BitVec.ofInt 64 (x : Int)).toNat = x := by
  rw [BitVec.toNat_ofInt]
  omega
theorem and_nat {x y : Nat} (hx : x < 4096) (hy : y < 4096) : IntKind.i64.wrap (((BitVec.ofInt 64 (x : Int) &&& BitVec.ofInt 64 (y : Int)).toNat : Nat) : Int) = ((x &&& y : Nat) : Int) := by
  rw [BitVec.toNat_and, ofInt_nat x (by omega), ofInt_nat y (by omega)]
  have : x &&& y ≤ x := Nat.and_le_left
  exact wrap64 (by omega) (by omega)
def lowT (b : Nat) : Bool := (List.range 10).any fun v => IntKind.i64.wrap (((BitVec.ofInt 64 (b : Int) &&& BitVec.ofInt 64 (IntKind.i64.wrap (0 - (b : Int)))).toNat : Nat) : Int) == ((2 ^ v : Nat) : Int) && (Nat.beq (b % 2 ^ v) 0 && Nat.beq (b / 2 ^ v % 2) 1)
theorem lowT_all : (List.range 1023).all (fun b => lowT (b + 1)) = true := by kernel_rfl
theorem low_ex {b : Nat} (h0 : 0 < b) (h1 : b < 1024) : ∃ v, v < 10 ∧ IntKind.i64.wrap (((BitVec.ofInt 64 (b : Int) &&& BitVec.ofInt 64 (IntKind.i64.wrap (0 - (b : Int)))).toNat : Nat) : Int) = ((2 ^ v : Nat) : Int) ∧ b % 2 ^ v = 0 ∧ b / 2 ^ v % 2 = 1 := by
  have h := (List.all_eq_true.1 lowT_all) (b - 1) (by simp; omega)
  rw [show b - 1 + 1 = b by omega] at h
  obtain ⟨v, hv, h⟩ := List.any_eq_true.1 h
  simp only [Bool.and_eq_true, beq_iff_eq] at h
  exact ⟨v, by simpa using hv, h.1, Nat.eq_of_beq_eq_true h.2.1, Nat.eq_of_beq_eq_true h.2.2⟩
theorem bit_ne {p v : Nat} (hp : p < 4096) (hv : v < 10) : (IntKind.i64.wrap (((BitVec.ofInt 64 (p : Int) &&& BitVec.ofInt 64 ((2 ^ v : Nat) : Int)).toNat : Nat) : Int) != 0) = decide (p / 2 ^ v % 2 = 1) := by
  have h2 : 2 ^ v ≤ 2 ^ 10 := Nat.pow_le_pow_right (by omega) (by omega)
  rw [and_nat hp (by omega), ← Nat.testBit_eq_decide_div_mod_eq]
  have e : (p &&& 2 ^ v).testBit v = p.testBit v := by rw [Nat.testBit_and, Nat.testBit_two_pow, decide_eq_true rfl, Bool.and_true]
  cases h : p.testBit v with
  | true =>
    rw [h] at e
    rw [bne_iff_ne]
    intro h0
    have h0 : (p &&& 2 ^ v) = 0 := by omega
    rw [h0, Nat.zero_testBit] at e
    cases e
  | false =>
    have : (p &&& 2 ^ v) = 0 := Nat.eq_of_testBit_eq fun i => by
      rw [Nat.testBit_and, Nat.testBit_two_pow, Nat.zero_testBit]
      by_cases hi : v = i
      · subst hi; rw [h]; rfl
      · rw [decide_eq_false hi, Bool.and_false]
    rw [this]
    rfl
section
variable {da db : Int} {cs : List (List AV)}
theorem fewest_val (hF : RFine da db cs) (h9 : smn cs cs.length ≤ 9) : g47 da db cs = true ∧ w47_0 da db cs = (mq da db cs (mn cs) : Int) := by
  have hlen0 := sglTo_len (cs := cs) (k := cs.length) hF.c
  have hr : ∀ j, j ∈ sglTo cs cs.length → j < cs.length := fun j hj => sglTo_lt hj
  have hcount : ∀ j, j < cs.length → ((sglTo cs cs.length).count j : Int) = mn cs j := by
    have key : ∀ k, k ≤ cs.length → ∀ j, j < cs.length → ((sglTo cs k).count j : Int) = if j < k then mn cs j else 0 := by
      intro k
      induction k with
      | zero => intro _ j _; rfl
      | succ k ih =>
        intro hk j hj
        have hc := hF.c k (by omega)
        unfold okCut at hc
        show ((sglTo cs k ++ List.replicate (mn cs k).toNat k).count j : Int) = _
        rw [List.count_append, Int.natCast_add, ih (by omega) j hj, List.count_replicate]
        by_cases e : j = k
        · subst e
          rw [if_neg (show ¬ j < j by omega), if_pos (show j < j + 1 by omega)]
          simp
          omega
        · have : (k == j) = false := by simpa using fun e' => e e'.symm
          rw [this]
          by_cases h' : j < k
          · rw [if_pos h', if_pos (show j < k + 1 by omega)]; simp
          · rw [if_neg h', if_neg (show ¬ j < k + 1 by omega)]; simp
    intro j hj
    rw [key cs.length (Nat.le_refl _) j hj, if_pos hj]
  obtain ⟨s1, s2⟩ := single_val hF
  obtain ⟨p1, p2⟩ := rpat_val (vs := cs) hF hr (by omega)
  generalize hrow : sglTo cs cs.length = row at *
  rw [← s2] at p1 p2
  have hL : row.length ≤ 9 := by omega
  have hN : 2 ^ row.length ≤ 512 := by
    have : 2 ^ row.length ≤ 2 ^ 9 := Nat.pow_le_pow_right (by omega) hL
    omega
  have hN1 : 0 < 2 ^ row.length := Nat.two_pow_pos _
  have hnn : ∀ b i, i < cs.length → 0 ≤ cB row b i := fun b i _ => cB_nn row b i
  have hmle : ∀ b, (mq da db cs (cB row b) : Int) ≤ (row.length : Int) := fun b => by
    have := (mq_ok hF (hnn b)).2.2
    have := TT_cB (N := cs.length) (row := row) (b := b)
    omega
  -- one set
  have inner : ∀ b, 0 < b → b < 2 ^ row.length → ∀ F : Nat → Int, (∀ s, s < b → F s = (mq da db cs (cB row s) : Int)) → ∀ v, v < 10 → b % 2 ^ v = 0 → b / 2 ^ v % 2 = 1 →
      ∃ a, r47aa 0 (rowAV row) (btab (fun b => decide (szB (Lz db cs cs row) b ≤ da + db)) (2 ^ row.length)) (2 ^ row.length) (b : Int) ((2 ^ v : Nat) : Int) (b : Int) (itab (fun s => if s = b then (row.length : Int) else F s) (2 ^ row.length)) = some (.x0 a (itab (fun s => if s = b then (mq da db cs (cB row b) : Int) else F s) (2 ^ row.length))) := by
    intro b hb0 hb F hF' v hv hv1 hv2
    have hvL : v < row.length := by
      rcases Nat.lt_or_ge v row.length with h | h
      · exact h
      · exfalso
        have h1 : 2 ^ row.length ≤ 2 ^ v := Nat.pow_le_pow_right (by omega) h
        rw [Nat.div_eq_of_lt (by omega)] at hv2
        omega
    have hbit := cB_bit hvL hv2
    have hk : row.getD v 0 < cs.length := by
      refine hr _ ?_
      rw [List.getD_eq_getElem?_getD, List.getElem?_eq_getElem hvL]
      exact List.getElem_mem hvL
    obtain ⟨P, P1, P2, P3, P4⟩ := mq_ex hF (hnn b) hk hbit
    have run := run_while (S := Nat × Int) (step := fun x : S47aa => stp47aa 0 (rowAV row) (btab (fun b => decide (szB (Lz db cs cs row) b ≤ da + db)) (2 ^ row.length)) (2 ^ row.length) (b : Int) ((2 ^ v : Nat) : Int) x.t8 x.m11) (fun s => s.1)
      (fun s => (⟨(s.1 : Int), itab (fun x => if x = b then s.2 else F x) (2 ^ row.length)⟩ : S47aa))
      (fun s => SubN row.length s.1 b ∧ (mq da db cs (cB row b) : Int) ≤ s.2 ∧ s.2 ≤ 9 ∧ ∀ x, SubN row.length x b → s.1 < x → x / 2 ^ v % 2 = 1 → szB (Lz db cs cs row) x ≤ da + db → s.2 ≤ 1 + (mq da db cs (cB row (b - x)) : Int))
      (fun s y => ∃ a, y = .x0 a (itab (fun s => if s = b then (mq da db cs (cB row b) : Int) else F s) (2 ^ row.length)))
      (fun s hs => by
        obtain ⟨p, c⟩ := s
        obtain ⟨i1, i2, i3, i4⟩ := hs
        dsimp only at i1 i2 i3 i4 ⊢
        have hpb := i1.le
        rcases Nat.eq_zero_or_pos p with hp | hp
        · right
          subst hp
          have hc : c = (mq da db cs (cB row b) : Int) := by
            obtain ⟨x, x1, x2, x3⟩ := cB_pick (row := row) (b := b) (P := fun j => if j < cs.length then P j else 0) hb (fun j => by
              split
              · rename_i hj; exact P1 j hj
              · exact ⟨Int.le_refl _, cB_nn row b j⟩)
            have x3 := x3 v hvL hv1 hv2 (by rw [if_pos hk]; exact P3)
            have hx0 : 0 < x := by
              rcases Nat.eq_zero_or_pos x with h | h
              · rw [h, Nat.zero_div] at x3; omega
              · exact h
            have ed : DD db cs (cB row x) cs.length = DD db cs P cs.length := DD_congr fun i hi => by rw [x2 i, if_pos hi]
            rw [DD_cB (ws := cs) hr] at ed
            have := i4 x x1 hx0 x3 (by omega)
            have em : mq da db cs (cB row (b - x)) = mq da db cs (fun i => cB row b i - P i) := mq_congr hF (hnn _) fun i hi => by rw [(cB_sub x1 i).2, x2 i, if_pos hi]
            omega
          refine ⟨.x0 0 (itab (fun s => if s = b then (mq da db cs (cB row b) : Int) else F s) (2 ^ row.length)), ?_, _, rfl⟩
          unfold stp47aa
          rw [show decide (((0 : Nat) : Int) > 0) = false from rfl, hc]
          rfl
        · left
          have d0 : decide ((p : Int) > 0) = true := decide_eq_true (by omega)
          have nxe : IntKind.i64.wrap (((BitVec.ofInt 64 (IntKind.i64.wrap ((p : Int) - 1)) &&& BitVec.ofInt 64 (b : Int)).toNat : Nat) : Int) = ((((p - 1) &&& b : Nat)) : Int) := by
            have : IntKind.i64.wrap ((p : Int) - 1) = ((p - 1 : Nat) : Int) := (wrap64 (by omega) (by omega)).trans (by omega)
            rw [this, and_nat (by omega) (by omega)]
          have nlt : ((p - 1) &&& b) < p := by
            have : ((p - 1) &&& b) ≤ p - 1 := Nat.and_le_left
            omega
          have nsub : SubN row.length ((p - 1) &&& b) b := SubN.and _ hb
          by_cases hbit : p / 2 ^ v % 2 = 1
          · have d1 : (IntKind.i64.wrap (((BitVec.ofInt 64 (p : Int) &&& BitVec.ofInt 64 ((2 ^ v : Nat) : Int)).toNat : Nat) : Int) != 0) = true := by rw [bit_ne (by omega) hv]; exact decide_eq_true hbit
            have d2 : inb (p : Int) (btab (fun b => decide (szB (Lz db cs cs row) b ≤ da + db)) (2 ^ row.length)).length = true := by rw [btab_len]; exact inb_true (by omega)
            have d3 : fB ((btab (fun b => decide (szB (Lz db cs cs row) b ≤ da + db)) (2 ^ row.length)).getD (p : Int).toNat []) 0 = decide (szB (Lz db cs cs row) p ≤ da + db) := by
              rw [Int.toNat_natCast, btab_get (by omega)]; rfl
            by_cases hok : szB (Lz db cs cs row) p ≤ da + db
            · have hpat := mq_le (q := cB row b) (p := cB row p) hF (fun i hi => ⟨cB_nn row p i, (cB_sub i1 i).1⟩) (by rw [DD_cB (ws := cs) hr]; exact hok)
              have hms : mq da db cs (cB row (b - p)) = mq da db cs (fun i => cB row b i - cB row p i) := mq_congr hF (hnn _) fun i hi => (cB_sub i1 i).2
              have d4 : ∀ x : Nat, x < 2 ^ row.length → (inb (x : Int) (2 ^ row.length) && (0 + (x : Int).toNat).blt (itab (fun x => if x = b then c else F x) (2 ^ row.length)).length) = true := fun x hx => by
                rw [itab_len, Int.toNat_natCast, Nat.zero_add, inb_true hx]
                simp only [Nat.blt, Bool.true_and, Nat.ble_eq]
                exact hx
              have d5 : ∀ x : Nat, x < 2 ^ row.length → (0 + (x : Int).toNat).blt (itab (fun x => if x = b then c else F x) (2 ^ row.length)).length = true := fun x hx => by
                rw [itab_len, Int.toNat_natCast, Nat.zero_add]
                simp only [Nat.blt, Nat.ble_eq]
                exact hx
              have d6 : IntKind.i64.wrap ((b : Int) - (p : Int)) = ((b - p : Nat) : Int) := (wrap64 (by omega) (by omega)).trans (by omega)
              have hm9 := hmle (b - p)
              refine ⟨((p - 1) &&& b, bmin c (1 + (mq da db cs (cB row (b - p)) : Int))), ?_, ⟨nsub, ?_, ?_, ?_⟩, nlt, fun y hy => hy⟩
              · unfold stp47aa
                dsimp only
                rw [d0, d1, d2, d3, decide_eq_true hok, d4 b hb, d5 b hb, d6, d4 (b - p) (by omega), d5 (b - p) (by omega), nxe, Int.toNat_natCast, Int.toNat_natCast, Nat.zero_add, Nat.zero_add]
                have g1 : fI ((itab (fun x => if x = b then c else F x) (2 ^ row.length)).getD b []) 0 = c := by rw [itab_get hb, if_pos rfl]; rfl
                have g2 : fI ((itab (fun x => if x = b then c else F x) (2 ^ row.length)).getD (b - p) []) 0 = (mq da db cs (cB row (b - p)) : Int) := by
                  rw [itab_get (by omega), if_neg (by omega), hF' _ (by omega)]; rfl
                rw [g1, g2, wrap64 (by omega) (by omega), itab_set (g := fun x => if x = b then bmin c (1 + (mq da db cs (cB row (b - p)) : Int)) else F x) hb (by rw [if_pos rfl]) (fun j _ hj => by rw [if_neg hj, if_neg hj])]
                rfl
              · dsimp only
                rw [bmin_le]
                split <;> omega
              · dsimp only
                rw [bmin_le]
                split <;> omega
              · intro x x1 x2 x3 x4
                dsimp only at x2 ⊢
                rw [bmin_le]
                rcases Nat.lt_trichotomy p x with h | h | h
                · have := i4 x x1 h x3 x4
                  split <;> omega
                · subst h
                  split <;> omega
                · have := SubN.next x1 i1 h
                  omega
            · refine ⟨((p - 1) &&& b, c), ?_, ⟨nsub, i2, i3, fun x x1 x2 x3 x4 => ?_⟩, nlt, fun y hy => hy⟩
              · unfold stp47aa
                dsimp only
                rw [d0, d1, d2, d3, decide_eq_false hok, nxe]
                rfl
              · rcases Nat.lt_trichotomy p x with h | h | h
                · exact i4 x x1 h x3 x4
                · subst h; exact absurd x4 hok
                · have := SubN.next x1 i1 h
                  dsimp only at x2
                  omega
          · refine ⟨((p - 1) &&& b, c), ?_, ⟨nsub, i2, i3, fun x x1 x2 x3 x4 => ?_⟩, nlt, fun y hy => hy⟩
            · unfold stp47aa
              dsimp only
              rw [d0, bit_ne (by omega) hv, decide_eq_false hbit, nxe]
              rfl
            · rcases Nat.lt_trichotomy p x with h | h | h
              · exact i4 x x1 h x3 x4
              · subst h; exact absurd x3 hbit
              · have := SubN.next x1 i1 h
                dsimp only at x2
                omega)
      (b, (row.length : Int)) ⟨SubN.refl hb, hmle b, by omega, fun x x1 x2 => by have := x1.le; dsimp only at x2; omega⟩
    obtain ⟨y, h1, a, h2⟩ := run
    exact ⟨a, by rw [← h2]; exact h1⟩
  -- all sets
  have outer : ∃ a, r47a 0 (rowAV row) (btab (fun b => decide (szB (Lz db cs cs row) b ≤ da + db)) (2 ^ row.length)) (2 ^ row.length) 1 (itab (fun _ => 0) (2 ^ row.length)) = some (.x0 a (itab (fun s => (mq da db cs (cB row s) : Int)) (2 ^ row.length))) := by
    have run := run_for (S := Unit) (step := fun x : S47a => stp47a 0 (rowAV row) (btab (fun b => decide (szB (Lz db cs cs row) b ≤ da + db)) (2 ^ row.length)) (2 ^ row.length) x.t6 x.m11) (2 ^ row.length - 1)
      (fun k _ => (⟨((k + 1 : Nat) : Int), itab (fun s => if s ≤ k then (mq da db cs (cB row s) : Int) else 0) (2 ^ row.length)⟩ : S47a)) (fun _ _ => True) (fun _ _ y => ∃ a, y = .x0 a (itab (fun s => (mq da db cs (cB row s) : Int)) (2 ^ row.length)))
      (fun k _ hk _ => by
        left
        refine ⟨(), ?_, trivial, fun y hy => hy⟩
        obtain ⟨v, v1, v2, v3, v4⟩ := low_ex (b := k + 1) (by omega) (by omega)
        obtain ⟨a, ha⟩ := inner (k + 1) (by omega) (by omega) (fun s => if s ≤ k then (mq da db cs (cB row s) : Int) else 0) (fun s hs => by rw [if_pos (by omega)]) v v1 v3 v4
        have d4 : (inb ((k + 1 : Nat) : Int) (2 ^ row.length) && (0 + ((k + 1 : Nat) : Int).toNat).blt (itab (fun s => if s ≤ k then (mq da db cs (cB row s) : Int) else 0) (2 ^ row.length)).length) = true := by
          rw [itab_len, Int.toNat_natCast, Nat.zero_add, inb_true (by omega)]
          simp only [Nat.blt, Bool.true_and, Nat.ble_eq]
          omega
        have d5 : (0 + ((k + 1 : Nat) : Int).toNat).blt (itab (fun s => if s ≤ k then (mq da db cs (cB row s) : Int) else 0) (2 ^ row.length)).length = true := by
          rw [itab_len, Int.toNat_natCast, Nat.zero_add]
          simp only [Nat.blt, Nat.ble_eq]
          omega
        unfold stp47a
        dsimp only
        rw [btab_len, lt_true (show k + 1 < 2 ^ row.length by omega), d4, d5, v2, Int.toNat_natCast, Nat.zero_add, rowAV_length, itab_set (g := fun s => if s = k + 1 then (row.length : Int) else if s ≤ k then (mq da db cs (cB row s) : Int) else 0) (by omega) (by rw [if_pos rfl]) (fun j _ hj => by rw [if_neg hj])]
        unfold i47aa_0 v47aa_0_m11
        rw [ha, wrap_succ (by omega)]
        show Lp.go _ = _
        congr 2
        exact itab_congr fun j _ => by
          by_cases h1 : j = k + 1
          · rw [if_pos h1, if_pos (by omega), h1]
          · rw [if_neg h1]
            by_cases h2 : j ≤ k
            · rw [if_pos h2, if_pos (by omega)]
            · rw [if_neg h2, if_neg (by omega)])
      (fun _ _ => by
        refine ⟨.x0 ((2 ^ row.length : Nat) : Int) (itab (fun s => (mq da db cs (cB row s) : Int)) (2 ^ row.length)), ?_, _, rfl⟩
        unfold stp47a
        dsimp only
        rw [btab_len, show 2 ^ row.length - 1 + 1 = 2 ^ row.length by omega, lt_false]
        rw [itab_congr (g := fun s => (mq da db cs (cB row s) : Int)) fun j hj => by rw [if_pos (by omega)]]
        rfl)
      0 () (by omega) trivial
    obtain ⟨y, h1, a, h2⟩ := run
    refine ⟨a, ?_⟩
    rw [← h2, ← h1]
    unfold r47a
    congr 2
    exact itab_congr fun j _ => by
      by_cases h : j ≤ 0
      · obtain rfl : j = 0 := by omega
        rw [if_pos h, mq_zero hF]; · rfl
        intro i hi
        have : ∀ (row : List Nat), cB row 0 i = 0 := by
          intro row
          induction row with
          | nil => rfl
          | cons c r ih => show (if 0 % 2 = 1 then e1 c i else 0) + cB r (0 / 2) i = 0; rw [if_neg (by omega), Nat.zero_div, ih]; rfl
        exact this row
      · rw [if_neg h]
  obtain ⟨a, ha⟩ := outer
  have mk8 : (decide (((2 ^ row.length : Nat) : Int) = ((2 ^ row.length : Nat) : Int)) && (decide (0 ≤ ((2 ^ row.length : Nat) : Int)) && decide (((2 ^ row.length : Nat) : Int) * (8 : Int) ≤ 140737488355328) && decide (((2 ^ row.length : Nat) : Int) ≤ 9223372036854775807))) = true := by
    simp only [Bool.and_eq_true, decide_eq_true_eq]
    exact ⟨trivial, ⟨by omega, by omega⟩, by omega⟩
  have wl : IntKind.i64.wrap (((2 ^ row.length : Nat) : Int) - 1) = ((2 ^ row.length - 1 : Nat) : Int) := (wrap64 (by omega) (by omega)).trans (by omega)
  have e6 : (inb ((2 ^ row.length - 1 : Nat) : Int) (2 ^ row.length) && (0 + ((2 ^ row.length - 1 : Nat) : Int).toNat).blt (2 ^ row.length)) = true := by
    rw [Int.toNat_natCast, Nat.zero_add, inb_true (by omega)]
    simp only [Nat.blt, Bool.true_and, Nat.ble_eq]
    omega
  have e7 : (0 + ((2 ^ row.length - 1 : Nat) : Int).toNat).blt (2 ^ row.length) = true := by
    rw [Int.toNat_natCast, Nat.zero_add]
    simp only [Nat.blt, Nat.ble_eq]
    omega
  have fin : fI ((itab (fun s => (mq da db cs (cB row s) : Int)) (2 ^ row.length)).getD (0 + ((2 ^ row.length - 1 : Nat) : Int).toNat) []) 0 = (mq da db cs (mn cs) : Int) := by
    rw [Int.toNat_natCast, Nat.zero_add, itab_get (by omega)]
    show (mq da db cs (cB row (2 ^ row.length - 1)) : Int) = _
    rw [mq_congr hF (hnn _) fun i hi => (cB_full row i).trans (hcount i hi)]
  unfold g47 w47_0 t47
  rw [s1, p1, s2] at *
  rw [p2, btab_len, mk8, Int.toNat_natCast, itab_zero]
  unfold i47a_0 v47a_0_m11
  rw [ha, wl]
  dsimp only
  rw [itab_len, e6, e7]
  exact ⟨rfl, fin⟩
end
end Go.Proofs.Ytgifjphinkbcaaa

set_option maxRecDepth 100000
set_option linter.unusedVariables false
namespace Go.Proofs.Ytgifjphinkbcaaa
open Go Go.Ev
/-- Rods that are handed in. -/
theorem rods_of {a : AV} (h : TyArg Try.prog 35 a) : ∃ da db cs, a = .agg [.i .i64 da, .i .i64 db, .rs 64 cs] := by
  obtain ⟨bs, rfl, hw⟩ := ty_agg (c := [.int .i64, .int .i64, .sl 64]) (by kernel_rfl) (by kernel_rfl) h
  obtain ⟨b0, q0, rfl, w0, hw⟩ := WTs_cons hw
  obtain ⟨b1, q1, rfl, w1, hw⟩ := WTs_cons hw
  obtain ⟨b3, q3, rfl, w3, hw⟩ := WTs_cons hw
  obtain rfl := WTs_nil hw
  obtain ⟨ra, rfl, r1⟩ := WT_int w0
  obtain ⟨rb, rfl, r2⟩ := WT_int w1
  obtain ⟨ps, rfl, _⟩ := WT_sl w3
  exact ⟨ra, rb, ps, rfl⟩
end Go.Proofs.Ytgifjphinkbcaaa

set_option linter.unusedVariables false
namespace Go.Proofs.Ytgifjphinkbcaaa
open Go Go.Ev
noncomputable def e19 (args : List AV) (rows : List Blk) : Option (Bool × AV × List Blk) := match args, rows with
  | [], [] => some (true, .b true, [])
  | _, _ => none
theorem e19_ok (args : List AV) (rows : List Blk) (pre : Bool) (v : AV) (rows' : List Blk) (h : e19 args rows = some (pre, v, rows')) (hp : pre = true) : Con Try.prog 19 args rows v rows' := by
  unfold e19 at h
  split at h
  · cases h; exact lives_con
  · cases h
-- SPEC 19
end Go.Proofs.Ytgifjphinkbcaaa

set_option maxRecDepth 100000
set_option linter.unusedVariables false
namespace Go.Proofs.Ytgifjphinkbcaaa
open Go Go.Ev
noncomputable def SPL : Ev.Spec := insS 47 e47 (insS 46 e46 (insS 25 e25 (insS 45 e45 (insS 21 e21 (insS 19 e19 (S0))))))
theorem SPL_ok : SpecOK Try.prog SPL := insS_ok e47_ok (insS_ok e46_ok (insS_ok e25_ok (insS_ok e45_ok (insS_ok e21_ok (insS_ok e19_ok (S0_ok))))))
end Go.Proofs.Ytgifjphinkbcaaa

set_option maxRecDepth 100000
set_option maxHeartbeats 0
set_option linter.unusedVariables false
namespace Go.Proofs.Ytgifjphinkbcaaa
open Go Go.Ev

/-! ### RidgePlans -/
noncomputable def c13 : Code := match Try.f13.body with | some c => c | _ => .skip
theorem lok13 : LOK Try.prog SPL (ro 13) (fun _ _ => none) 0 false c13 [] :=
  lok_lo (fun _ _ _ _ _ _ _ h _ => by cases h) c13 [] false (locate_nil _) (by kernel_rfl)
noncomputable def t13 (da db : Int) (cs : List (List AV)) : Tr ((Bool)) :=
  .cn (g21 da db cs) (.cn (w21_0 da db cs) (.lf (true)) (.cn (g45 da db cs) (.cn (g25 da db cs) (.cn (w45_1 da db cs != w25_0 da db cs) (.lf (false)) (.cn (w45_1 da db cs != 0) (.cn ((↑(w45_0 da db cs).length : Int) == 0) (.lf (true)) (.lf (false))) (.cn (g46 da db cs (w45_0 da db cs)) (.cn (w46_0 da db cs (w45_0 da db cs)) (.cn (g47 da db cs) (.cn ((↑(w45_0 da db cs).length : Int) == w47_0 da db cs) (.lf (true)) (.lf (false))) (.nn)) (.lf (false))) (.nn)))) (.nn)) (.nn))) (.nn)
noncomputable def g13 (da db : Int) (cs : List (List AV)) : Bool := (t13 da db cs).g
noncomputable def w13_0 (da db : Int) (cs : List (List AV)) : Bool := (t13 da db cs).val
theorem eq13 (da db : Int) (cs : List (List AV)) : evF Try.prog SPL (ro 13) (fun _ _ => none) Try.f13 [.agg [.i .i64 da, .i .i64 db, .rs 64 cs]] = (t13 da db cs).opt (fun (x : (Bool)) => (.b x : AV)) := by kernel_rfl
theorem con13 (da db : Int) (cs : List (List AV)) (h : g13 da db cs = true) : Con Try.prog 13 [.agg [.i .i64 da, .i .i64 db, .rs 64 cs]] [] (.b (w13_0 da db cs)) [] :=
  con_of SPL_ok mixed Try.func13 (c := c13) rfl (names 13 _ Try.func13) lok13 ((eq13 da db cs).trans (Tr.sound _ _ h))
noncomputable def e13 (args : List AV) (rows : List Blk) : Option (Bool × AV × List Blk) := match args, rows with
  | [.agg [.i .i64 da, .i .i64 db, .rs 64 cs]], [] => some (g13 da db cs, .b (w13_0 da db cs), [])
  | _, _ => none
theorem e13_ok (args : List AV) (rows : List Blk) (pre : Bool) (v : AV) (rows' : List Blk) (h : e13 args rows = some (pre, v, rows')) (hp : pre = true) : Con Try.prog 13 args rows v rows' := by
  unfold e13 at h
  split at h
  · cases h; exact con13 _ _ _ hp
  · cases h
-- SPEC 13
end Go.Proofs.Ytgifjphinkbcaaa

set_option maxRecDepth 100000
set_option linter.unusedVariables false
namespace Go.Proofs.Ytgifjphinkbcaaa
open Go Go.Ev
/-! ### RidgePlans -/
theorem plans_law (da db : Int) (cs : List (List AV)) : g13 da db cs = true ∧ w13_0 da db cs = true := by
  unfold g13 w13_0 t13
  obtain ⟨wd1, wd2⟩ := wide_val da db cs
  rw [wd1]
  cases hw : w21_0 da db cs with
  | true => exact ⟨rfl, rfl⟩
  | false =>
  obtain ⟨c1, c2, c3, _⟩ := rods_eq da db cs
  obtain ⟨p1, p2, p3, p4⟩ := plan_val da db cs
  have e3 : ∀ b : Int, (b != b) = false := by simp
  rw [p1, c2, c3, p2, e3]
  by_cases h0 : w24_0 da db cs = 0
  · obtain ⟨hF, rs, h1, h2, h3⟩ := p4 h0
    obtain ⟨f1, f2⟩ := fewest_val hF (wd2 hF hw)
    obtain ⟨v1, v2⟩ := planned_val hF h1.row (by omega) h1.cnt
    have e4 : (((plAV rs).length : Int) == (mq da db cs (mn cs) : Int)) = true := by
      rw [plAV_len, h1.len]; simp
    rw [h0, h3, v1, v2, f1, f2, e4]
    exact ⟨rfl, rfl⟩
  · have e5 : (w24_0 da db cs != 0) = true := by rw [bne_iff_ne]; exact h0
    rw [e5, p3 h0]
    exact ⟨rfl, rfl⟩
theorem ridgePlans_law (avs : List AV) (h : TyArgs Try.prog Try.f13.params.toList avs) : Con Try.prog 13 avs [] (.b true) [] := by
  obtain ⟨a0, r0, rfl, h0, h⟩ := tyArgs_cons h
  obtain rfl := tyArgs_nil h
  obtain ⟨da, db, cs, rfl⟩ := rods_of h0
  obtain ⟨h1, h2⟩ := plans_law da db cs
  have := con13 da db cs h1
  rw [h2] at this
  exact this
end Go.Proofs.Ytgifjphinkbcaaa
