/-
  The law WearRates returns true for every climate and all numbers, and leaves its arguments as they were. No conditions.
-/
import Derived.Test.YteclfchlejocmaaA6
import Derived.Test.YteclfchlejocmaaEvW
set_option maxRecDepth 100000
namespace Go.Proofs.Yteclfchlejocmaa
open Go Go.Ev

theorem WT_int {a : AV} {k : IntKind} (h : WT Try.prog (.int k) a) : ∃ n, a = .i k n ∧ k.min ≤ n ∧ n ≤ k.max := by
  cases h with
  | int h1 h2 => exact ⟨_, rfl, h1, h2⟩
theorem ty_int {a : AV} {t : TypeId} (hA : Ev.isAgg Try.prog t = false) (hc : cts Try.prog t = [.int .i64]) (h : TyArg Try.prog t a) : ∃ n, a = .i .i64 n ∧ IntKind.i64.min ≤ n ∧ n ≤ IntKind.i64.max := by
  rcases h with ⟨h, _⟩ | ⟨_, h⟩
  · rw [hA] at h; cases h
  · rw [hc] at h; exact WT_int h
theorem ty_agg {a : AV} {t : TypeId} {c : List CT} (hA : Ev.isAgg Try.prog t = true) (hc : cts Try.prog t = c) (h : TyArg Try.prog t a) : ∃ bs, a = .agg bs ∧ WTs Try.prog c bs := by
  rcases h with ⟨_, bs, h1, h2⟩ | ⟨h, _⟩
  · exact ⟨bs, h1, by rw [← hc]; exact h2⟩
  · rw [hA] at h; cases h
theorem WTs_cons {c : CT} {cs : List CT} {bs : List AV} (h : WTs Try.prog (c :: cs) bs) : ∃ a r, bs = a :: r ∧ WT Try.prog c a ∧ WTs Try.prog cs r := by
  obtain ⟨h1, h2⟩ := h
  cases bs with
  | nil => simp at h1
  | cons a r =>
    refine ⟨a, r, rfl, by simpa using h2 0 (by simp), by simpa using h1, fun j hj => ?_⟩
    simpa using h2 (j + 1) (by simpa using hj)
theorem WTs_nil {bs : List AV} (h : WTs Try.prog [] bs) : bs = [] := by simpa using h.1
theorem tyArgs_cons {t : TypeId} {ts : List TypeId} {bs : List AV} (h : TyArgs Try.prog (t :: ts) bs) : ∃ a r, bs = a :: r ∧ TyArg Try.prog t a ∧ TyArgs Try.prog ts r := by
  cases bs with
  | nil => exact h.elim
  | cons a r => exact ⟨a, r, rfl, h.1, h.2⟩
theorem tyArgs_nil {bs : List AV} (h : TyArgs Try.prog [] bs) : bs = [] := by
  cases bs with
  | nil => rfl
  | cons a r => exact h.elim

theorem rates_law (avs : List AV) (h : TyArgs Try.prog Try.f4.params.toList avs) : Con Try.prog 4 avs (.b true) := by
  obtain ⟨a0, r0, rfl, h0, h⟩ := tyArgs_cons h
  obtain ⟨a1, r1, rfl, h1, h⟩ := tyArgs_cons h
  obtain ⟨a2, r2, rfl, h2, h⟩ := tyArgs_cons h
  obtain ⟨a3, r3, rfl, h3, h⟩ := tyArgs_cons h
  obtain ⟨a4, r4, rfl, h4, h⟩ := tyArgs_cons h
  obtain rfl := tyArgs_nil h
  obtain ⟨bs, rfl, hw⟩ := ty_agg (c := [.int .i64, .int .i64]) (by kernel_rfl) (by kernel_rfl) h0
  obtain ⟨b0, q0, rfl, w0, hw⟩ := WTs_cons hw
  obtain ⟨b1, q1, rfl, w1, hw⟩ := WTs_cons hw
  obtain rfl := WTs_nil hw
  obtain ⟨lo, rfl, _⟩ := WT_int w0
  obtain ⟨hi, rfl, _⟩ := WT_int w1
  obtain ⟨r, rfl, _⟩ := ty_int (by kernel_rfl) (by kernel_rfl) h1
  obtain ⟨u, rfl, _⟩ := ty_int (by kernel_rfl) (by kernel_rfl) h2
  obtain ⟨s, rfl, _⟩ := ty_int (by kernel_rfl) (by kernel_rfl) h3
  obtain ⟨m, rfl, _⟩ := ty_int (by kernel_rfl) (by kernel_rfl) h4
  refine con_plain Sl_ok Try.func4 rfl (by kernel_rfl) ?_
  rw [eq4]
  simp
end Go.Proofs.Yteclfchlejocmaa
