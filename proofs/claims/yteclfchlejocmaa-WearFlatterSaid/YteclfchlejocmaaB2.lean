/-
  The law WearFlatter returns true for every climate and any two faces, and leaves its arguments as they were. No conditions.
-/
import Derived.Test.YteclfchlejocmaaB1
import Derived.Test.YteclfchlejocmaaA7
set_option maxRecDepth 100000
namespace Go.Proofs.Yteclfchlejocmaa
open Go Go.Ev

def flatRest (lo hi r u s m : Int) : Option AV :=
  cond (errE lo hi r u s m == 0) (cond (errE lo hi r r 0 0 != 0) (some (.b false)) (cond (!(lowE lo hi r r 0 0 == lo && highE lo hi r r 0 0 == hi)) (some (.b false))
    (cond (decide (lowE lo hi r u s m > highE lo hi r u s m)) (some (.b false)) (some (.b true))))) (some (.b true))
theorem eq6 (lo hi c1 c2 r u s m d1 d2 R U S M : Int) : evF Try.prog Sl (ro 6) (fun _ _ => none) Try.f6 [.agg [.i .i64 lo, .i .i64 hi], .agg [.i .i64 c1, .i .i64 c2, .i .i64 r, .i .i64 u, .i .i64 s, .i .i64 m], .agg [.i .i64 d1, .i .i64 d2, .i .i64 R, .i .i64 U, .i .i64 S, .i .i64 M]] =
    cond (errE lo hi r u s m == 0) (cond (errE lo hi R U S M == 0) (cond (decide (Wr (u * R) ≤ Wr (U * r))) (cond (decide (s ≤ S)) (cond (decide (m ≤ M))
      (cond (decide (lowE lo hi r u s m > lowE lo hi R U S M)) (some (.b false)) (cond (decide (highE lo hi r u s m > highE lo hi R U S M)) (some (.b false)) (flatRest lo hi r u s m)))
      (flatRest lo hi r u s m)) (flatRest lo hi r u s m)) (flatRest lo hi r u s m)) (flatRest lo hi r u s m)) (flatRest lo hi r u s m) := by kernel_rfl

theorem err0 {lo hi r u s m : Int} : (errE lo hi r u s m == 0) = okR lo hi r u s m := by
  unfold errE
  cases okR lo hi r u s m <;> rfl
theorem flatRest_true (lo hi r u s m : Int) : flatRest lo hi r u s m = some (.b true) := by
  unfold flatRest
  rw [err0]
  cases h : okR lo hi r u s m with
  | false => rfl
  | true =>
    obtain ⟨h1, h2, h3⟩ := open_face h
    have e1 : (errE lo hi r r 0 0 != 0) = false := by simp [errE, h1]
    have e2 : lowE lo hi r r 0 0 = lo := by simp [lowE, h1, h2]
    have e3 : highE lo hi r r 0 0 = hi := by simp [highE, h1, h3]
    have e4 : ¬ (lowE lo hi r u s m > highE lo hi r u s m) := by
      have := low_le_high h
      simp only [lowE, highE, h, cond_true]
      omega
    simp [e1, e2, e3, e4]
theorem flat_true (lo hi c1 c2 r u s m d1 d2 R U S M : Int) : evF Try.prog Sl (ro 6) (fun _ _ => none) Try.f6 [.agg [.i .i64 lo, .i .i64 hi], .agg [.i .i64 c1, .i .i64 c2, .i .i64 r, .i .i64 u, .i .i64 s, .i .i64 m], .agg [.i .i64 d1, .i .i64 d2, .i .i64 R, .i .i64 U, .i .i64 S, .i .i64 M]] = some (.b true) := by
  rw [eq6, flatRest_true, err0, err0]
  cases h : okR lo hi r u s m with
  | false => rfl
  | true =>
    cases H : okR lo hi R U S M with
    | false => rfl
    | true =>
      obtain ⟨_, ⟨r0, r1⟩, ⟨u0, u1⟩, _⟩ := ok_iff.1 h
      obtain ⟨_, ⟨R0, R1⟩, ⟨U0, U1⟩, _⟩ := ok_iff.1 H
      have w1 : Wr (u * R) = u * R := wrap_mul (X := 100) (Y := 100) (by omega) (by omega) (by omega) (by omega) (by omega)
      have w2 : Wr (U * r) = U * r := wrap_mul (X := 100) (Y := 100) (by omega) (by omega) (by omega) (by omega) (by omega)
      rw [w1, w2]
      cases h3 : decide (u * R ≤ U * r) with
      | false => rfl
      | true =>
        cases h4 : decide (s ≤ S) with
        | false => rfl
        | true =>
          cases h5 : decide (m ≤ M) with
          | false => rfl
          | true =>
            obtain ⟨g1, g2⟩ := flat_mono h H (of_decide_eq_true h3) (of_decide_eq_true h4) (of_decide_eq_true h5)
            have e1 : ¬ (lowE lo hi r u s m > lowE lo hi R U S M) := by
              simp only [lowE, h, H, cond_true]
              omega
            have e2 : ¬ (highE lo hi r u s m > highE lo hi R U S M) := by
              simp only [highE, h, H, cond_true]
              omega
            simp [e1, e2]

theorem flatter_law (avs : List AV) (h : TyArgs Try.prog Try.f6.params.toList avs) : Con Try.prog 6 avs (.b true) := by
  obtain ⟨a0, r0, rfl, h0, h⟩ := tyArgs_cons h
  obtain ⟨a1, r1, rfl, h1, h⟩ := tyArgs_cons h
  obtain ⟨a2, r2, rfl, h2, h⟩ := tyArgs_cons h
  obtain rfl := tyArgs_nil h
  obtain ⟨p, rfl, hw⟩ := ty_agg (c := [.int .i64, .int .i64]) (by kernel_rfl) (by kernel_rfl) h0
  obtain ⟨b0, q0, rfl, w0, hw⟩ := WTs_cons hw
  obtain ⟨b1, q1, rfl, w1, hw⟩ := WTs_cons hw
  obtain rfl := WTs_nil hw
  obtain ⟨lo, rfl, _⟩ := WT_int w0
  obtain ⟨hi, rfl, _⟩ := WT_int w1
  have six : ∀ {a : AV} {t : TypeId}, Ev.isAgg Try.prog t = true → cts Try.prog t = [.int .i64, .int .i64, .int .i64, .int .i64, .int .i64, .int .i64] → TyArg Try.prog t a →
      ∃ x1 x2 x3 x4 x5 x6, a = .agg [.i .i64 x1, .i .i64 x2, .i .i64 x3, .i .i64 x4, .i .i64 x5, .i .i64 x6] := by
    intro a t hA hc ha
    obtain ⟨p, rfl, hw⟩ := ty_agg hA hc ha
    obtain ⟨b0, q0, rfl, w0, hw⟩ := WTs_cons hw
    obtain ⟨b1, q1, rfl, w1, hw⟩ := WTs_cons hw
    obtain ⟨b2, q2, rfl, w2, hw⟩ := WTs_cons hw
    obtain ⟨b3, q3, rfl, w3, hw⟩ := WTs_cons hw
    obtain ⟨b4, q4, rfl, w4, hw⟩ := WTs_cons hw
    obtain ⟨b5, q5, rfl, w5, hw⟩ := WTs_cons hw
    obtain rfl := WTs_nil hw
    obtain ⟨x1, rfl, _⟩ := WT_int w0
    obtain ⟨x2, rfl, _⟩ := WT_int w1
    obtain ⟨x3, rfl, _⟩ := WT_int w2
    obtain ⟨x4, rfl, _⟩ := WT_int w3
    obtain ⟨x5, rfl, _⟩ := WT_int w4
    obtain ⟨x6, rfl, _⟩ := WT_int w5
    exact ⟨_, _, _, _, _, _, rfl⟩
  obtain ⟨c1, c2, r, u, s, m, rfl⟩ := six (by kernel_rfl) (by kernel_rfl) h1
  obtain ⟨d1, d2, R, U, S, M, rfl⟩ := six (by kernel_rfl) (by kernel_rfl) h2
  exact con_plain Sl_ok Try.func6 rfl (by kernel_rfl) (flat_true ..)
end Go.Proofs.Yteclfchlejocmaa
