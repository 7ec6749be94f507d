/-
  The law RidgeFibonacci of the roofer's ridges answers true whatever byte it is handed; no conditions.
-/
import Derived.Test.YtgifjphinkbcaaaKa
import Derived.Test.YtgifjphinkbcaaaFb
import Derived.Test.YtgifjphinkbcaaaEvd
import Derived.Test.YtgifjphinkbcaaaRa
set_option linter.unusedVariables false
set_option maxRecDepth 100000
set_option linter.unusedVariables false
namespace Go.Proofs.Ytgifjphinkbcaaa
open Go Go.Ev
/-- One, one, two, three, five .. -/
def fibp : Nat → Nat × Nat
  | 0 => (1, 1)
  | n + 1 => ((fibp n).2, (fibp n).1 + (fibp n).2)
def PP : List (List AV) := [[.s ⟨#[97]⟩, .i .i64 1, .i .i64 0, .i .i64 0, .i .i64 0], [.s ⟨#[98]⟩, .i .i64 2, .i .i64 0, .i .i64 0, .i .i64 1]]
theorem PP_ok : okPs PP := by
  refine ⟨by decide, fun p hp => ?_⟩
  simp only [PP, List.mem_cons, List.not_mem_nil, or_false] at hp
  rcases hp with rfl | rfl <;> exact ⟨by decide, by decide, by decide, by decide, by decide, by decide⟩
theorem fib_mono : ∀ n, (fibp n).1 ≤ (fibp (n + 1)).1 ∧ 1 ≤ (fibp n).1
  | 0 => ⟨by decide, by decide⟩
  | n + 1 => by
    obtain ⟨h1, h2⟩ := fib_mono n
    show (fibp n).2 ≤ (fibp n).1 + (fibp n).2 ∧ 1 ≤ (fibp n).2
    have : (fibp (n + 1)).1 = (fibp n).2 := rfl
    omega
theorem fib_le {n m : Nat} (h : n ≤ m) : (fibp n).1 ≤ (fibp m).1 := by
  induction m with
  | zero =>
    have : n = 0 := by omega
    subst this; exact Nat.le_refl _
  | succ m ih =>
    rcases Nat.eq_or_lt_of_le h with e | e
    · subst e; exact Nat.le_refl _
    · exact Nat.le_trans (ih (by omega)) (fib_mono m).1
theorem fib_rec (n : Nat) : (fibp (n + 2)).1 = (fibp n).1 + (fibp (n + 1)).1 := rfl
theorem cnt_fib : ∀ n, cnt PP 0 n 0 = bmin ((fibp n).1 : Int) cap ∧ cnt PP 0 (n + 1) 0 = bmin ((fibp (n + 1)).1 : Int) cap
  | 0 => by
    refine ⟨by decide +kernel, ?_⟩
    rw [cnt_rec PP_ok]
    decide +kernel
  | n + 1 => by
    obtain ⟨h1, h2⟩ := cnt_fib n
    refine ⟨h2, ?_⟩
    rw [cnt_rec PP_ok]
    have ea : ∀ a, acc (fun k => cnt PP 0 k) (n + 1 + 1) 0 a [.s ⟨#[97]⟩, .i .i64 1, .i .i64 0, .i .i64 0, .i .i64 0] = bmin (a + cnt PP 0 (n + 1) 0) cap := fun a => by
      unfold acc
      rw [if_pos ⟨by decide, by show 1 ≤ n + 1 + 1; omega⟩]
      rfl
    have eb : ∀ a, acc (fun k => cnt PP 0 k) (n + 1 + 1) 0 a [.s ⟨#[98]⟩, .i .i64 2, .i .i64 0, .i .i64 0, .i .i64 1] = bmin (a + cnt PP 0 n 0) cap := fun a => by
      unfold acc
      rw [if_pos ⟨by decide, by show 2 ≤ n + 1 + 1; omega⟩]
      rfl
    have hf : ∀ (f : Int → List AV → Int), PP.foldl f 0 = f (f 0 [.s ⟨#[97]⟩, .i .i64 1, .i .i64 0, .i .i64 0, .i .i64 0]) [.s ⟨#[98]⟩, .i .i64 2, .i .i64 0, .i .i64 0, .i .i64 1] := fun f => rfl
    rw [hf, ea, eb, h1, h2, show (fibp (n + 1 + 1)).1 = (fibp n).1 + (fibp (n + 1)).1 from rfl]
    have p1 : (0 : Int) ≤ ((fibp n).1 : Int) := by omega
    have p2 : (0 : Int) ≤ ((fibp (n + 1)).1 : Int) := by omega
    simp only [bmin_le, cap, Int.natCast_add]
    split <;> split <;> split <;> split <;> omega
end Go.Proofs.Ytgifjphinkbcaaa

set_option maxRecDepth 100000
set_option linter.unusedVariables false
namespace Go.Proofs.Ytgifjphinkbcaaa
open Go Go.Ev
theorem nameOne (nm : ByteArray) (h0 : stp94a true 0 nm 0 = .go ⟨1⟩) (h1 : stp94a true 0 nm 1 = .out (.x1 1)) : w94_0 nm true = -1 := by
  have hr : r94a true 0 nm 0 = some (.x1 1) := (run_go (step := fun x : S94a => stp94a true 0 nm x.m2_1) h0).trans (run_out h1)
  unfold w94_0 t94 i94a_0 i94a_1
  rw [hr]
  rfl
theorem w84_of {nm : ByteArray} (h : w94_0 nm true = -1) : w84_0 nm = false := by
  have : w91_0 nm = -1 := by
    unfold w91_0 t91
    rw [g94_true, h]; rfl
  unfold w84_0 t84
  have g : g91 nm = true := by
    unfold g91 t91
    rw [g94_true]; rfl
  rw [g, this]; rfl
theorem isA : w61_0 ⟨#[97]⟩ = true := by
  have h := w84_of (nameOne ⟨#[97]⟩ (by kernel_rfl) (by kernel_rfl))
  unfold w61_0 t61
  rw [g84_true, h]
  decide +kernel
theorem isB : w61_0 ⟨#[98]⟩ = true := by
  have h := w84_of (nameOne ⟨#[98]⟩ (by kernel_rfl) (by kernel_rfl))
  unfold w61_0 t61
  rw [g84_true, h]
  decide +kernel
theorem stepPP0 : ∃ m, stp29a 0 0 0 PP 0 PP (PP.length : Int) 0 [] = .go ⟨1, m⟩ ∧ stp29a 0 0 0 PP 0 PP (PP.length : Int) 1 m = .go ⟨2, mset (.s ⟨#[98]⟩) (.b true) m⟩ := by
  refine ⟨mset (.s ⟨#[97]⟩) (.b true) [], ?_, ?_⟩
  · unfold stp29a
    show cond _ (cond _ (cond (g61 ⟨#[97]⟩) (cond (!w61_0 ⟨#[97]⟩) _ _) _) _) _ = _
    rw [g61_true, isA]
    kernel_rfl
  · unfold stp29a
    show cond _ (cond _ (cond (g61 ⟨#[98]⟩) (cond (!w61_0 ⟨#[98]⟩) _ _) _) _) _ = _
    rw [g61_true, isB]
    kernel_rfl
theorem checkPP : w29_0 0 0 0 PP = 0 := by
  obtain ⟨m, h0, h1⟩ := stepPP0
  have ra : r29a 0 0 0 PP 0 PP (PP.length : Int) 0 [] = some (.x1 (PP.length : Int) (mset (.s ⟨#[98]⟩) (.b true) m)) :=
    (run_go (step := fun x : S29a => stp29a 0 0 0 PP 0 PP (PP.length : Int) x.t35 x.m24) h0).trans ((run_go (step := fun x : S29a => stp29a 0 0 0 PP 0 PP (PP.length : Int) x.t35 x.m24) h1).trans (run_out stepA_end))
  have b0 : stp29b 0 0 0 PP 0 PP (PP.length : Int) 0 = .go ⟨1⟩ := by kernel_rfl
  have b1 : stp29b 0 0 0 PP 0 PP (PP.length : Int) 1 = .go ⟨2⟩ := by kernel_rfl
  have rb : r29b 0 0 0 PP 0 PP (PP.length : Int) 0 = some (.x1 (PP.length : Int)) :=
    (run_go (step := fun x : S29b => stp29b 0 0 0 PP 0 PP (PP.length : Int) x.t73) b0).trans ((run_go (step := fun x : S29b => stp29b 0 0 0 PP 0 PP (PP.length : Int) x.t73) b1).trans (run_out stepB_end))
  unfold w29_0 t29 i29a_0 i29a_1 i29b_0 i29b_1
  rw [ra, rb]
  rfl
theorem checkPP_at {n : Nat} (hn : n ≤ 2000) : w29_0 (n : Int) 0 0 PP = 0 := by
  rcases check_err 0 0 0 PP with h | ⟨_, h⟩
  · exact absurd checkPP h
  · exact h _ _ (by omega) (by omega) (by decide) (by decide)
end Go.Proofs.Ytgifjphinkbcaaa

set_option maxRecDepth 100000
set_option linter.unusedVariables false
namespace Go.Proofs.Ytgifjphinkbcaaa
open Go Go.Ev
theorem fib_loop {n : Nat} (hn : n ≤ 90) : r4a false (n : Int) (n : Int) 0 0 PP 1 1 1 = some (.x0 (if n = 0 then 1 else ((fibp (n - 1)).1 : Int)) ((fibp n).1 : Int) (if n = 0 then 1 else (n : Int))) := by
  have hmax : (fibp 91).1 ≤ 9223372036854775807 := by decide +kernel
  cases n with
  | zero =>
    refine run_out ?_
    show stp4a false 0 0 0 0 PP 1 1 1 = _
    rfl
  | succ m =>
    rw [if_neg (by omega), if_neg (by omega)]
    have := run_from0 (step := fun x : S4a => stp4a false ((m + 1 : Nat) : Int) ((m + 1 : Nat) : Int) 0 0 PP x.t5 x.t6 x.t7) (y := .x0 ((fibp m).1 : Int) ((fibp (m + 1)).1 : Int) ((m + 1 : Nat) : Int)) (m := m)
      (fun k => ⟨((fibp k).1 : Int), ((fibp (k + 1)).1 : Int), ((k + 1 : Nat) : Int)⟩) (fun k hk => ?_) ?_
    · exact this
    · show stp4a false ((m + 1 : Nat) : Int) ((m + 1 : Nat) : Int) 0 0 PP ((fibp k).1 : Int) ((fibp (k + 1)).1 : Int) ((k + 1 : Nat) : Int) = _
      unfold stp4a
      have e1 : decide (((k + 1 : Nat) : Int) < ((m + 1 : Nat) : Int)) = true := decide_eq_true (by omega)
      have ew : IntKind.i64.wrap (((k + 1 : Nat) : Int) + 1) = ((k + 1 + 1 : Nat) : Int) := (wrap64 (by omega) (by omega)).trans (by omega)
      have hl := fib_le (show k + 2 ≤ 91 by omega)
      rw [fib_rec] at hl
      have ef : IntKind.i64.wrap (((fibp k).1 : Int) + ((fibp (k + 1)).1 : Int)) = ((fibp (k + 1 + 1)).1 : Int) := by
        rw [show (fibp (k + 1 + 1)).1 = (fibp k).1 + (fibp (k + 1)).1 from rfl]
        exact (wrap64 (by omega) (by omega)).trans (by omega)
      rw [e1, cond_true, ew, ef]
    · show stp4a false ((m + 1 : Nat) : Int) ((m + 1 : Nat) : Int) 0 0 PP ((fibp m).1 : Int) ((fibp (m + 1)).1 : Int) ((m + 1 : Nat) : Int) = _
      unfold stp4a
      have e1 : decide (((m + 1 : Nat) : Int) < ((m + 1 : Nat) : Int)) = false := decide_eq_false (by omega)
      rw [e1]; rfl
theorem fib_law (x : Int) (h0 : 0 ≤ x) (h1 : x ≤ 255) : g4 x = true ∧ w4_0 x = true := by
  have ew : IntKind.i64.wrap x = x := wrap64 (by omega) (by omega)
  obtain ⟨n, hn, hn90⟩ : ∃ n : Nat, x.tmod 91 = (n : Int) ∧ n ≤ 90 := by
    refine ⟨(x.tmod 91).toNat, ?_, ?_⟩
    · have := Int.tmod_nonneg 91 h0
      omega
    · have := Int.tmod_lt_of_pos x (show (0 : Int) < 91 by decide)
      omega
  have hr := fib_loop hn90
  have i0 : i4a_0 false (n : Int) (n : Int) 0 0 PP 1 1 1 = true := by unfold i4a_0; rw [hr]
  have v0 : v4a_0_t6 false (n : Int) (n : Int) 0 0 PP 1 1 1 = ((fibp n).1 : Int) := by unfold v4a_0_t6; rw [hr]
  obtain ⟨g1, g2⟩ := ways_val (n := n) (b := 0) (c := 0) PP_ok (by omega) (by decide) (by decide) (checkPP_at (by omega))
  have hc : tabs PP 0 n n 0 = bmin ((fibp n).1 : Int) cap := (cnt_fib n).1
  rw [hc, bmin_le] at g2
  simp only [Int.natCast_zero] at g1 g2
  unfold g4 w4_0 t4
  rw [ew, hn]
  change (Tr.cn (i4a_0 false (n : Int) (n : Int) 0 0 PP 1 1 1) (.cn (g20 (n : Int) 0 0 PP) (.cn (decide (v4a_0_t6 false (n : Int) (n : Int) 0 0 PP 1 1 1 > 1000000000000000)) (.cn (w20_1 (n : Int) 0 0 PP == 3) (.cn (w20_0 (n : Int) 0 0 PP == 0) (.lf true) (.lf false)) (.lf false)) (.cn (w20_1 (n : Int) 0 0 PP == 0) (.cn (w20_0 (n : Int) 0 0 PP == v4a_0_t6 false (n : Int) (n : Int) 0 0 PP 1 1 1) (.lf true) (.lf false)) (.lf false))) .nn) .nn : Tr Bool).g = true ∧ (Tr.cn (i4a_0 false (n : Int) (n : Int) 0 0 PP 1 1 1) (.cn (g20 (n : Int) 0 0 PP) (.cn (decide (v4a_0_t6 false (n : Int) (n : Int) 0 0 PP 1 1 1 > 1000000000000000)) (.cn (w20_1 (n : Int) 0 0 PP == 3) (.cn (w20_0 (n : Int) 0 0 PP == 0) (.lf true) (.lf false)) (.lf false)) (.cn (w20_1 (n : Int) 0 0 PP == 0) (.cn (w20_0 (n : Int) 0 0 PP == v4a_0_t6 false (n : Int) (n : Int) 0 0 PP 1 1 1) (.lf true) (.lf false)) (.lf false))) .nn) .nn : Tr Bool).val = true
  rw [i0, g1, v0]
  unfold cap at g2
  rcases g2 with ⟨q, h3, h4⟩ | ⟨q, h3, h4⟩
  · have hd : decide (((fibp n).1 : Int) > 1000000000000000) = true := decide_eq_true (by split at q <;> omega)
    rw [hd, h3, h4]
    exact ⟨rfl, rfl⟩
  · have hle : ((fibp n).1 : Int) ≤ 1000000000000000 := by split at q <;> omega
    have hd : decide (((fibp n).1 : Int) > 1000000000000000) = false := decide_eq_false (by omega)
    rw [if_pos (by omega)] at h4
    rw [hd, h3, h4]
    simp [Tr.g, Tr.val]
end Go.Proofs.Ytgifjphinkbcaaa

set_option maxRecDepth 100000
set_option linter.unusedVariables false
namespace Go.Proofs.Ytgifjphinkbcaaa
open Go Go.Ev
theorem WT_int {a : AV} {k : IntKind} (h : WT Try.prog (.int k) a) : ∃ n, a = .i k n ∧ k.min ≤ n ∧ n ≤ k.max := by
  cases h with
  | int h1 h2 => exact ⟨_, rfl, h1, h2⟩
theorem WT_sl {a : AV} {e : TypeId} (h : WT Try.prog (.sl e) a) : ∃ es, a = .rs e es ∧ es.length ≤ 9223372036854775807 ∧ (∀ x, x ∈ es → x.length = (cts Try.prog e).length) ∧ (∀ x, x ∈ es → ∀ j, j < x.length → WT Try.prog ((cts Try.prog e).getD j .oth) (x.getD j .u)) := by
  cases h with
  | sl h1 h2 h3 => exact ⟨_, rfl, h1, h2, h3⟩
theorem ty_agg {a : AV} {t : TypeId} {c : List CT} (hA : Ev.isAgg Try.prog t = true) (hc : cts Try.prog t = c) (h : TyArg Try.prog t a) : ∃ bs, a = .agg bs ∧ WTs Try.prog c bs := by
  rcases h with ⟨_, as1, rfl, h⟩ | ⟨h, _⟩
  · exact ⟨as1, rfl, hc ▸ h⟩
  · rw [hA] at h; cases h
theorem ty_one {a : AV} {t : TypeId} {c : CT} (hA : Ev.isAgg Try.prog t = false) (hc : (cts Try.prog t).headD .oth = c) (h : TyArg Try.prog t a) : WT Try.prog c a := by
  rcases h with ⟨h, _⟩ | ⟨_, h⟩
  · rw [hA] at h; cases h
  · exact hc ▸ h
theorem WTs_cons {c : CT} {cs : List CT} {bs : List AV} (h : WTs Try.prog (c :: cs) bs) : ∃ a r, bs = a :: r ∧ WT Try.prog c a ∧ WTs Try.prog cs r := by
  obtain ⟨h1, h2⟩ := h
  cases bs with
  | nil => simp at h1
  | cons a r =>
    refine ⟨a, r, rfl, by simpa using h2 0 (by simp), by simpa using h1, fun j hj => ?_⟩
    simpa using h2 (j + 1) (by simpa using hj)
theorem WTs_nil {bs : List AV} (h : WTs Try.prog [] bs) : bs = [] := by simpa using h.1
theorem tyArgs_cons {t : TypeId} {ts : List TypeId} {bs : List AV} (h : TyArgs Try.prog (t :: ts) bs) : ∃ a r, bs = a :: r ∧ TyArg Try.prog t a ∧ TyArgs Try.prog ts r := by
  cases bs with
  | nil => cases h
  | cons a r => exact ⟨a, r, rfl, h.1, h.2⟩
theorem tyArgs_nil {bs : List AV} (h : TyArgs Try.prog [] bs) : bs = [] := by
  cases bs with
  | nil => rfl
  | cons a r => cases h
/-- A Ridge that is handed in. -/
theorem ridge_of {a : AV} (h : TyArg Try.prog 24 a) : ∃ ra rb rc ps, a = .agg [.i .i64 ra, .i .i64 rb, .i .i64 rc, .rs 31 ps] ∧ ps.length ≤ 9223372036854775807 ∧ (∀ x, x ∈ ps → x.length = (cts Try.prog 31).length) ∧ (∀ x, x ∈ ps → ∀ j, j < x.length → WT Try.prog ((cts Try.prog 31).getD j .oth) (x.getD j .u)) ∧
    (IntKind.i64.min ≤ ra ∧ ra ≤ IntKind.i64.max) ∧ (IntKind.i64.min ≤ rb ∧ rb ≤ IntKind.i64.max) ∧ (IntKind.i64.min ≤ rc ∧ rc ≤ IntKind.i64.max) := by
  obtain ⟨bs, rfl, hw⟩ := ty_agg (c := [.int .i64, .int .i64, .int .i64, .sl 31]) (by kernel_rfl) (by kernel_rfl) h
  obtain ⟨b0, q0, rfl, w0, hw⟩ := WTs_cons hw
  obtain ⟨b1, q1, rfl, w1, hw⟩ := WTs_cons hw
  obtain ⟨b2, q2, rfl, w2, hw⟩ := WTs_cons hw
  obtain ⟨b3, q3, rfl, w3, hw⟩ := WTs_cons hw
  obtain rfl := WTs_nil hw
  obtain ⟨ra, rfl, r1⟩ := WT_int w0
  obtain ⟨rb, rfl, r2⟩ := WT_int w1
  obtain ⟨rc, rfl, r3⟩ := WT_int w2
  obtain ⟨ps, rfl, r4, r5, r6⟩ := WT_sl w3
  exact ⟨ra, rb, rc, ps, rfl, r4, r5, r6, r1, r2, r3⟩
end Go.Proofs.Ytgifjphinkbcaaa

set_option maxRecDepth 100000
set_option linter.unusedVariables false
namespace Go.Proofs.Ytgifjphinkbcaaa
open Go Go.Ev
theorem ridgeFibonacci_law (avs : List AV) (h : TyArgs Try.prog Try.f4.params.toList avs) : Con Try.prog 4 avs [] (.b true) [] := by
  obtain ⟨a0, r0, rfl, h0, h⟩ := tyArgs_cons h
  obtain rfl := tyArgs_nil h
  obtain ⟨x, rfl, x0, x1⟩ := WT_int (ty_one (c := .int .u8) (by kernel_rfl) (by kernel_rfl) h0)
  have x0 : (0 : Int) ≤ x := x0
  have x1 : x ≤ 255 := x1
  obtain ⟨h1, h2⟩ := fib_law x x0 x1
  have := con4 x h1
  rw [h2] at this
  exact this
end Go.Proofs.Ytgifjphinkbcaaa
