/-
  The law WearFlatter returns true for every climate and any two faces, and leaves its arguments as they were. No conditions.
-/
import Derived.Test.YteclfchlejocmaaA6
set_option maxRecDepth 100000
namespace Go.Proofs.Yteclfchlejocmaa
open Go Go.Ev

theorem ok_iff {lo hi r u s m : Int} : okR lo hi r u s m = true ↔ (0 ≤ lo ∧ lo ≤ hi ∧ hi ≤ 10000) ∧ (1 ≤ r ∧ r ≤ 100) ∧ (1 ≤ u ∧ u ≤ 100) ∧ (0 ≤ s ∧ s ≤ 100) ∧ 0 ≤ m ∧ m ≤ 100 := by
  simp [okR, spB_true, inB_true]
theorem div_range {x d X : Int} (h0 : 0 ≤ x) (h1 : x ≤ X) (hd : 0 < d) : 0 ≤ x / d ∧ x / d ≤ X := by
  refine ⟨Int.ediv_nonneg h0 (by omega), ?_⟩
  have := Int.ediv_le_self d h0
  omega
theorem low2_eq {lo hi r u s m : Int} (h : okR lo hi r u s m = true) : low2 lo r u s = lo * (100 + s) * (r + u) / (200 * r) ∧ 0 ≤ lo * (100 + s) * (r + u) := by
  obtain ⟨⟨l0, l1, l2⟩, ⟨r0, r1⟩, ⟨u0, u1⟩, ⟨s0, s1⟩, m0, m1⟩ := ok_iff.1 h
  have eA : Wr (100 + s) = 100 + s := wrap_id (by omega) (by omega)
  have eB : Wr (r + u) = r + u := wrap_id (by omega) (by omega)
  have eD : Wr (200 * r) = 200 * r := wrap_id (by omega) (by omega)
  obtain ⟨A, hA⟩ : ∃ A, A = 100 + s := ⟨_, rfl⟩
  obtain ⟨B, hB⟩ : ∃ B, B = r + u := ⟨_, rfl⟩
  have bl := mulb (x := lo) (X := 10000) (y := A) (Y := 200) (by omega) (by omega) (by omega) (by omega)
  have b2 := mulb (x := lo * A) (X := 2000000) (y := B) (Y := 200) bl.1 (by omega) (by omega) (by omega)
  have e1 : Wr (lo * A) = lo * A := wrap_id (by omega) (by omega)
  have e2 : Wr (lo * A * B) = lo * A * B := wrap_id (by omega) (by omega)
  simp only [low2, eA, eB, eD]
  rw [← hA, ← hB, e1, e2, Int.tdiv_eq_ediv_of_nonneg b2.1]
  have q := div_range (d := 200 * r) b2.1 b2.2 (by omega)
  exact ⟨wrap_id (by omega) (by omega), b2.1⟩
theorem high2_eq {lo hi r u s m : Int} (h : okR lo hi r u s m = true) : high2 hi r u s m = (hi * (100 + s) * (100 + m) * (r + u) + 20000 * r - 1) / (20000 * r) ∧ 0 ≤ hi * (100 + s) * (100 + m) * (r + u) := by
  obtain ⟨⟨l0, l1, l2⟩, ⟨r0, r1⟩, ⟨u0, u1⟩, ⟨s0, s1⟩, m0, m1⟩ := ok_iff.1 h
  have eA : Wr (100 + s) = 100 + s := wrap_id (by omega) (by omega)
  have eB : Wr (r + u) = r + u := wrap_id (by omega) (by omega)
  have eM : Wr (100 + m) = 100 + m := wrap_id (by omega) (by omega)
  have eD : Wr (20000 * r) = 20000 * r := wrap_id (by omega) (by omega)
  obtain ⟨A, hA⟩ : ∃ A, A = 100 + s := ⟨_, rfl⟩
  obtain ⟨B, hB⟩ : ∃ B, B = r + u := ⟨_, rfl⟩
  obtain ⟨M, hM⟩ : ∃ M, M = 100 + m := ⟨_, rfl⟩
  have bl := mulb (x := hi) (X := 10000) (y := A) (Y := 200) (by omega) (by omega) (by omega) (by omega)
  have b2 := mulb (x := hi * A) (X := 2000000) (y := M) (Y := 200) bl.1 (by omega) (by omega) (by omega)
  have b3 := mulb (x := hi * A * M) (X := 400000000) (y := B) (Y := 200) b2.1 (by omega) (by omega) (by omega)
  have e1 : Wr (hi * A) = hi * A := wrap_id (by omega) (by omega)
  have e2 : Wr (hi * A * M) = hi * A * M := wrap_id (by omega) (by omega)
  have e3 : Wr (hi * A * M * B) = hi * A * M * B := wrap_id (by omega) (by omega)
  simp only [high2, eA, eB, eM, eD]
  rw [← hA, ← hB, ← hM, e1, e2, e3]
  have e4 : Wr (hi * A * M * B + 20000 * r) = hi * A * M * B + 20000 * r := wrap_id (by omega) (by omega)
  rw [e4]
  have e5 : Wr (hi * A * M * B + 20000 * r - 1) = hi * A * M * B + 20000 * r - 1 := wrap_id (by omega) (by omega)
  rw [e5, Int.tdiv_eq_ediv_of_nonneg (by omega)]
  have q := div_range (x := hi * A * M * B + 20000 * r - 1) (d := 20000 * r) (X := 80000000000 + 2000000) (by omega) (by omega) (by omega)
  exact ⟨wrap_id (by omega) (by omega), b3.1⟩

/-! ### Rounding -/
theorem floor_mono {x y d e : Int} (hd : 0 < d) (he : 0 < e) (h : x * e ≤ y * d) : x / d ≤ y / e := by
  rw [Int.le_ediv_iff_mul_le he]
  have h1 : x / d * d ≤ x := Int.ediv_mul_le x (by omega)
  have h2 : (x / d * e) * d ≤ y * d := by
    calc (x / d * e) * d = (x / d * d) * e := by rw [Int.mul_assoc, Int.mul_comm e d, ← Int.mul_assoc]
      _ ≤ x * e := Int.mul_le_mul_of_nonneg_right h1 (by omega)
      _ ≤ y * d := h
  exact Int.le_of_mul_le_mul_right h2 hd
theorem ceil_ge {x d : Int} (hd : 0 < d) : x ≤ (x + d - 1) / d * d := by
  have := Int.lt_ediv_add_one_mul_self (x + d - 1) hd
  rw [Int.add_mul, Int.one_mul] at this
  omega
theorem ceil_le {x d c : Int} (hd : 0 < d) (h : x ≤ c * d) : (x + d - 1) / d ≤ c := by
  have : (x + d - 1) / d < c + 1 := by
    rw [Int.ediv_lt_iff_lt_mul hd, Int.add_mul, Int.one_mul]
    omega
  omega
theorem ceil_mono {x y d e : Int} (hd : 0 < d) (he : 0 < e) (h : x * e ≤ y * d) : (x + d - 1) / d ≤ (y + e - 1) / e := by
  refine ceil_le hd ?_
  have h1 := ceil_ge (x := y) he
  have h2 : x * e ≤ ((y + e - 1) / e * d) * e := by
    calc x * e ≤ y * d := h
      _ ≤ ((y + e - 1) / e * e) * d := Int.mul_le_mul_of_nonneg_right h1 (by omega)
      _ = ((y + e - 1) / e * d) * e := by rw [Int.mul_assoc, Int.mul_comm e d, ← Int.mul_assoc]
  exact Int.le_of_mul_le_mul_right h2 he

theorem low_le_high {lo hi r u s m : Int} (h : okR lo hi r u s m = true) : low2 lo r u s ≤ high2 hi r u s m := by
  obtain ⟨e1, _⟩ := low2_eq h
  obtain ⟨e2, _⟩ := high2_eq h
  obtain ⟨⟨l0, l1, l2⟩, ⟨r0, r1⟩, ⟨u0, u1⟩, ⟨s0, s1⟩, m0, m1⟩ := ok_iff.1 h
  rw [e1, e2]
  generalize hx : lo * (100 + s) * (r + u) = x at *
  generalize hy : hi * (100 + s) * (100 + m) * (r + u) = y at *
  have hxy : x * 100 ≤ y := by
    rw [← hx, ← hy]
    have q1 : lo * (100 + s) * (r + u) * 100 = lo * (100 + s) * 100 * (r + u) := by rw [Int.mul_assoc, Int.mul_comm (r + u) 100, ← Int.mul_assoc]
    rw [q1]
    refine Int.mul_le_mul_of_nonneg_right ?_ (by omega)
    have q2 : lo * (100 + s) ≤ hi * (100 + s) := Int.mul_le_mul_of_nonneg_right l1 (by omega)
    have q3 : 0 ≤ hi * (100 + s) := Int.mul_nonneg (by omega) (by omega)
    exact Int.le_trans (Int.mul_le_mul_of_nonneg_right q2 (by omega)) (Int.mul_le_mul_of_nonneg_left (by omega) q3)
  have g1 : x / (200 * r) * (200 * r) ≤ x := Int.ediv_mul_le x (by omega)
  have g2 := ceil_ge (x := y) (d := 20000 * r) (by omega)
  have g3 : x / (200 * r) * (20000 * r) ≤ (y + 20000 * r - 1) / (20000 * r) * (20000 * r) := by
    have : x / (200 * r) * (20000 * r) = x / (200 * r) * (200 * r) * 100 := by
      rw [Int.mul_assoc]
      congr 1
      omega
    omega
  exact Int.le_of_mul_le_mul_right g3 (by omega)

theorem flat_mono {lo hi r u s m R U S M : Int} (h : okR lo hi r u s m = true) (H : okR lo hi R U S M = true) (hf : u * R ≤ U * r) (hs : s ≤ S) (hm : m ≤ M) :
    low2 lo r u s ≤ low2 lo R U S ∧ high2 hi r u s m ≤ high2 hi R U S M := by
  obtain ⟨e1, _⟩ := low2_eq h
  obtain ⟨e2, _⟩ := high2_eq h
  obtain ⟨E1, _⟩ := low2_eq H
  obtain ⟨E2, _⟩ := high2_eq H
  obtain ⟨⟨l0, l1, l2⟩, ⟨r0, r1⟩, ⟨u0, u1⟩, ⟨s0, s1⟩, m0, m1⟩ := ok_iff.1 h
  obtain ⟨_, ⟨R0, R1⟩, ⟨U0, U1⟩, ⟨S0, S1⟩, M0, M1⟩ := ok_iff.1 H
  rw [e1, e2, E1, E2]
  have hB : (r + u) * R ≤ (R + U) * r := by
    rw [Int.add_mul, Int.add_mul, Int.mul_comm r R]
    omega
  have hB0 : 0 ≤ (r + u) * R := Int.mul_nonneg (by omega) (by omega)
  have key : ∀ (p q : Int), 0 ≤ p → p ≤ q → p * (r + u) * R ≤ q * (R + U) * r := fun p q h0 h1 => by
    rw [Int.mul_assoc, Int.mul_assoc]
    exact Int.le_trans (Int.mul_le_mul_of_nonneg_right h1 hB0) (Int.mul_le_mul_of_nonneg_left hB (by omega))
  have scale : ∀ (k p q : Int), 0 ≤ k → p * R ≤ q * r → p * (k * R) ≤ q * (k * r) := fun k p q hk hpq => by
    have : k * (p * R) ≤ k * (q * r) := Int.mul_le_mul_of_nonneg_left hpq hk
    calc p * (k * R) = k * (p * R) := by rw [← Int.mul_assoc, Int.mul_comm p k, Int.mul_assoc]
      _ ≤ k * (q * r) := this
      _ = q * (k * r) := by rw [← Int.mul_assoc, Int.mul_comm k q, Int.mul_assoc]
  have pA : lo * (100 + s) ≤ lo * (100 + S) := Int.mul_le_mul_of_nonneg_left (by omega) l0
  have pA0 : 0 ≤ lo * (100 + s) := Int.mul_nonneg l0 (by omega)
  have qA : hi * (100 + s) ≤ hi * (100 + S) := Int.mul_le_mul_of_nonneg_left (by omega) (by omega)
  have qA0 : 0 ≤ hi * (100 + s) := Int.mul_nonneg (by omega) (by omega)
  have qM : hi * (100 + s) * (100 + m) ≤ hi * (100 + S) * (100 + M) :=
    Int.le_trans (Int.mul_le_mul_of_nonneg_right qA (by omega)) (Int.mul_le_mul_of_nonneg_left (by omega) (by omega))
  have qM0 : 0 ≤ hi * (100 + s) * (100 + m) := Int.mul_nonneg qA0 (by omega)
  exact ⟨floor_mono (by omega) (by omega) (scale 200 _ _ (by omega) (key _ _ pA0 pA)), ceil_mono (by omega) (by omega) (scale 20000 _ _ (by omega) (key _ _ qM0 qM))⟩

theorem open_face {lo hi r u s m : Int} (h : okR lo hi r u s m = true) : okR lo hi r r 0 0 = true ∧ low2 lo r r 0 = lo ∧ high2 hi r r 0 0 = hi := by
  obtain ⟨⟨l0, l1, l2⟩, ⟨r0, r1⟩, _⟩ := ok_iff.1 h
  have h' : okR lo hi r r 0 0 = true := ok_iff.2 ⟨⟨l0, l1, l2⟩, ⟨r0, r1⟩, ⟨r0, r1⟩, ⟨by omega, by omega⟩, by omega, by omega⟩
  refine ⟨h', ?_, ?_⟩
  · rw [(low2_eq h').1]
    have : lo * (100 + 0) * (r + r) = lo * (200 * r) := by
      rw [Int.mul_assoc]; congr 1; omega
    rw [this, Int.mul_ediv_cancel _ (by omega)]
  · rw [(high2_eq h').1]
    have e : hi * (100 + 0) * (100 + 0) * (r + r) = hi * (20000 * r) := by
      rw [Int.mul_assoc, Int.mul_assoc]; congr 1; omega
    rw [e]
    have d0 : 0 < 20000 * r := by omega
    have a1 := ceil_le (x := hi * (20000 * r)) (c := hi) d0 (Int.le_refl _)
    have a2 := ceil_ge (x := hi * (20000 * r)) d0
    have a3 := Int.le_of_mul_le_mul_right a2 d0
    omega
end Go.Proofs.Yteclfchlejocmaa
