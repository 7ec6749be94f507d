/-
  The law WearRates returns true for every climate and all numbers, and leaves its arguments as they were. No conditions.
-/
import Derived.Test.YteclfchlejocmaaA5
set_option maxRecDepth 100000
namespace Go.Proofs.Yteclfchlejocmaa
open Go Go.Ev

theorem inB_true {a b c : Int} : inB a b c = true ↔ b ≤ a ∧ a ≤ c := by simp [inB]
theorem spB_true {a b c : Int} : spB a b c = true ↔ 0 ≤ a ∧ a ≤ b ∧ b ≤ c := by simp [spB]
theorem mulb {x y X Y : Int} (h0 : 0 ≤ x) (h1 : x ≤ X) (h2 : 0 ≤ y) (h3 : y ≤ Y) : 0 ≤ x * y ∧ x * y ≤ X * Y :=
  ⟨Int.mul_nonneg h0 h2, Int.le_trans (Int.mul_le_mul_of_nonneg_right h1 h2) (Int.mul_le_mul_of_nonneg_left h3 (by omega))⟩
theorem wrap_mul {x y X Y : Int} (h0 : 0 ≤ x) (h1 : x ≤ X) (h2 : 0 ≤ y) (h3 : y ≤ Y) (h : X * Y ≤ 9223372036854775807) : Wr (x * y) = x * y := by
  obtain ⟨q1, q2⟩ := mulb h0 h1 h2 h3
  exact wrap_id (by omega) (by omega)

theorem rate_same {lo hi r u s m : Int} (h : okR lo hi r u s m = true) : low1 lo r u s = low2 lo r u s ∧ high1 hi r u s m = high2 hi r u s m := by
  simp only [okR, Bool.and_eq_true, spB_true, inB_true] at h
  obtain ⟨⟨l0, l1, l2⟩, ⟨r0, r1⟩, ⟨u0, u1⟩, ⟨s0, s1⟩, m0, m1⟩ := h
  have eA : Wr (100 + s) = 100 + s := wrap_id (by omega) (by omega)
  have eB : Wr (r + u) = r + u := wrap_id (by omega) (by omega)
  have eM : Wr (100 + m) = 100 + m := wrap_id (by omega) (by omega)
  simp only [low1, low2, high1, high2, eA, eB, eM]
  obtain ⟨A, hA⟩ : ∃ A, A = 100 + s := ⟨_, rfl⟩
  obtain ⟨B, hB⟩ : ∃ B, B = r + u := ⟨_, rfl⟩
  obtain ⟨M, hM⟩ : ∃ M, M = 100 + m := ⟨_, rfl⟩
  rw [← hA, ← hB, ← hM]
  have bAB := mulb (x := A) (X := 200) (y := B) (Y := 200) (by omega) (by omega) (by omega) (by omega)
  have eAB : Wr (A * B) = A * B := wrap_mul (X := 200) (Y := 200) (by omega) (by omega) (by omega) (by omega) (by omega)
  have bl := mulb (x := lo) (X := 10000) (y := A) (Y := 200) (by omega) (by omega) (by omega) (by omega)
  have bh := mulb (x := hi) (X := 10000) (y := A) (Y := 200) (by omega) (by omega) (by omega) (by omega)
  have e1 : Wr (lo * A) = lo * A := wrap_id (by omega) (by omega)
  have e2 : Wr (hi * A) = hi * A := wrap_id (by omega) (by omega)
  have bhAB := mulb (x := hi) (X := 10000) (y := A * B) (Y := 40000) (by omega) (by omega) bAB.1 (by omega)
  have e3 : Wr (hi * (A * B)) = hi * (A * B) := wrap_id (by omega) (by omega)
  have bhAM := mulb (x := hi * A) (X := 2000000) (y := M) (Y := 200) bh.1 (by omega) (by omega) (by omega)
  have e4 : Wr (hi * A * M) = hi * A * M := wrap_id (by omega) (by omega)
  rw [eAB, e1, e2, e3, e4]
  have f1 : lo * (A * B) = lo * A * B := (Int.mul_assoc lo A B).symm
  have f2 : hi * (A * B) * M = hi * A * M * B := by
    rw [← Int.mul_assoc hi A B, Int.mul_assoc (hi * A) B M, Int.mul_comm B M, ← Int.mul_assoc]
  rw [f1, f2]
  exact ⟨rfl, rfl⟩

def lowE (lo hi r u s m : Int) : Int := cond (okR lo hi r u s m) (low2 lo r u s) 0
def highE (lo hi r u s m : Int) : Int := cond (okR lo hi r u s m) (high2 hi r u s m) 0
def errE (lo hi r u s m : Int) : Int := cond (okR lo hi r u s m) 0 1

theorem nz {k r : Int} (hk : 1 ≤ k ∧ k ≤ 20000) (hr : inB r 1 100 = true) : decide (Wr (k * r) = 0) = false := by
  obtain ⟨r0, r1⟩ := inB_true.1 hr
  have b := mulb (x := k) (X := 20000) (y := r) (Y := 100) (by omega) (by omega) (by omega) (by omega)
  have e : Wr (k * r) = k * r := wrap_id (by omega) (by omega)
  rw [e]
  have : 0 < k * r := Int.mul_pos (by omega) (by omega)
  exact decide_eq_false (by omega)

theorem con20 (lo hi r u s m : Int) : Con Try.prog 20 [.agg [.i .i64 lo, .i .i64 hi], .i .i64 r, .i .i64 u, .i .i64 s, .i .i64 m] (rt (lowE lo hi r u s m) (highE lo hi r u s m) (errE lo hi r u s m)) := by
  refine con_plain Sa_ok Try.func20 rfl (by kernel_rfl) ?_
  rw [eq20]
  simp only [lowE, highE, errE, okR]
  cases h1 : spB lo hi 10000 <;> try rfl
  cases h2 : inB r 1 100 <;> try rfl
  cases h3 : inB u 1 100 <;> try rfl
  cases h4 : inB s 0 100 <;> try rfl
  cases h5 : inB m 0 100 <;> try rfl
  rw [nz (by omega) h2, nz (by omega) h2]
  rfl
theorem con19 (lo hi r u s m : Int) : Con Try.prog 19 [.agg [.i .i64 lo, .i .i64 hi], .i .i64 r, .i .i64 u, .i .i64 s, .i .i64 m] (rt (lowE lo hi r u s m) (highE lo hi r u s m) (errE lo hi r u s m)) := by
  refine con_plain Sa_ok Try.func19 rfl (by kernel_rfl) ?_
  rw [eq19]
  simp only [lowE, highE, errE]
  cases h0 : okR lo hi r u s m with
  | true =>
    obtain ⟨g1, g2⟩ := rate_same h0
    rw [g1, g2]
    simp only [okR, Bool.and_eq_true] at h0
    obtain ⟨h1, h2, h3, h4, h5⟩ := h0
    rw [h1, h2, h3, h4, h5, nz (by omega) h2, nz (by omega) h2]
    rfl
  | false =>
    simp only [okR] at h0
    cases h1 : spB lo hi 10000 <;> try rfl
    cases h2 : inB r 1 100 <;> try rfl
    cases h3 : inB u 1 100 <;> try rfl
    cases h4 : inB s 0 100 <;> try rfl
    cases h5 : inB m 0 100 <;> try rfl
    rw [h1, h2, h3, h4, h5] at h0
    cases h0

/-- What the law calls. -/
def Sl : Ev.Spec := fun f args => match f, args with
  | 14, [] => some (true, .b true)
  | 19, [.agg [.i .i64 lo, .i .i64 hi], .i .i64 r, .i .i64 u, .i .i64 s, .i .i64 m] => some (true, rt (lowE lo hi r u s m) (highE lo hi r u s m) (errE lo hi r u s m))
  | 20, [.agg [.i .i64 lo, .i .i64 hi], .i .i64 r, .i .i64 u, .i .i64 s, .i .i64 m] => some (true, rt (lowE lo hi r u s m) (highE lo hi r u s m) (errE lo hi r u s m))
  | _, _ => none
theorem Sl_ok : SpecOK Try.prog Sl := by
  intro f args pre v h hp
  unfold Sl at h
  split at h
  · cases h; exact lives_con
  · cases h; exact con19 _ _ _ _ _ _
  · cases h; exact con20 _ _ _ _ _ _
  · cases h
theorem eq4 (lo hi r u s m : Int) : evF Try.prog Sl (ro 4) (fun _ _ => none) Try.f4 [.agg [.i .i64 lo, .i .i64 hi], .i .i64 r, .i .i64 u, .i .i64 s, .i .i64 m] =
    cond ((lowE lo hi r u s m == lowE lo hi r u s m) && (highE lo hi r u s m == highE lo hi r u s m)) (cond (errE lo hi r u s m == errE lo hi r u s m) (some (.b true)) (some (.b false))) (some (.b false)) := by kernel_rfl
end Go.Proofs.Yteclfchlejocmaa
