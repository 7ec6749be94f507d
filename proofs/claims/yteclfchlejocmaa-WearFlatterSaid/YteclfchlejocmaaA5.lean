/-
  The law WearRates returns true for every climate and all numbers, and leaves its arguments as they were. No conditions.
-/
import Derived.Test.YteclfchlejocmaaA4
set_option maxRecDepth 100000
namespace Go.Proofs.Yteclfchlejocmaa
open Go Go.Ev

theorem con_plain {S : Ev.Spec} (hs : SpecOK Try.prog S) {f : FuncId} {fn : Func} {c : Code} {args : List AV} {v : AV} (hf : Try.prog.funcs[f]? = some fn) (hb : fn.body = some c) (hn : nest false c = true) (he : evF Try.prog S (ro f) (fun _ _ => none) fn args = some v) : Con Try.prog f args v :=
  con_of hs mixed hf hb (names f fn hf) (lok_auto (I := fun _ _ => none) (fun _ _ _ h => by cases h) c 0 0 c [] 0 false (locate_nil c) hn) he
theorem none_ok : SpecOK Try.prog (fun _ _ => none) := fun f args pre v h => by cases h

def inB (a b c : Int) : Bool := decide (b ≤ a) && decide (a ≤ c)
def spB (a b c : Int) : Bool := decide (0 ≤ a) && (decide (a ≤ b) && decide (b ≤ c))

theorem eq39 (a b c : Int) : evF Try.prog (fun _ _ => none) (ro 39) (fun _ _ => none) Try.f39 [.i .i64 a, .i .i64 b, .i .i64 c] = cond (decide (b ≤ a)) (some (.b (cond true (decide (a ≤ c)) false))) (some (.b false)) := by kernel_rfl
theorem eq43 (a b c : Int) : evF Try.prog (fun _ _ => none) (ro 43) (fun _ _ => none) Try.f43 [.i .i64 a, .i .i64 b, .i .i64 c] = cond (decide (a ≥ b)) (some (.b (cond true (decide (a ≤ c)) false))) (some (.b false)) := by kernel_rfl
theorem eq40 (a b c : Int) : evF Try.prog (fun _ _ => none) (ro 40) (fun _ _ => none) Try.f40 [.agg [.i .i64 a, .i .i64 b], .i .i64 c] = cond (decide (0 ≤ a)) (cond (decide (a ≤ b)) (some (.b (cond true (decide (b ≤ c)) false))) (some (.b false))) (some (.b false)) := by kernel_rfl
theorem eq44 (a b c : Int) : evF Try.prog (fun _ _ => none) (ro 44) (fun _ _ => none) Try.f44 [.agg [.i .i64 a, .i .i64 b], .i .i64 c] = cond (decide (0 ≤ a)) (cond (decide (a ≤ b)) (some (.b (cond true (decide (b ≤ c)) false))) (some (.b false))) (some (.b false)) := by kernel_rfl

theorem con39 (a b c : Int) : Con Try.prog 39 [.i .i64 a, .i .i64 b, .i .i64 c] (.b (inB a b c)) :=
  con_plain none_ok Try.func39 rfl (by kernel_rfl) (by rw [eq39]; unfold inB; cases decide (b ≤ a) <;> rfl)
theorem con43 (a b c : Int) : Con Try.prog 43 [.i .i64 a, .i .i64 b, .i .i64 c] (.b (inB a b c)) :=
  con_plain none_ok Try.func43 rfl (by kernel_rfl) (by rw [eq43]; show cond (decide (b ≤ a)) _ _ = _; unfold inB; cases decide (b ≤ a) <;> rfl)
theorem con40 (a b c : Int) : Con Try.prog 40 [.agg [.i .i64 a, .i .i64 b], .i .i64 c] (.b (spB a b c)) :=
  con_plain none_ok Try.func40 rfl (by kernel_rfl) (by rw [eq40]; unfold spB; cases decide (0 ≤ a) <;> cases decide (a ≤ b) <;> rfl)
theorem con44 (a b c : Int) : Con Try.prog 44 [.agg [.i .i64 a, .i .i64 b], .i .i64 c] (.b (spB a b c)) :=
  con_plain none_ok Try.func44 rfl (by kernel_rfl) (by rw [eq44]; unfold spB; cases decide (0 ≤ a) <;> cases decide (a ≤ b) <;> rfl)

/-- The small functions. -/
def Sa : Ev.Spec := fun f args => match f, args with
  | 39, [.i .i64 a, .i .i64 b, .i .i64 c] => some (true, .b (inB a b c))
  | 43, [.i .i64 a, .i .i64 b, .i .i64 c] => some (true, .b (inB a b c))
  | 40, [.agg [.i .i64 a, .i .i64 b], .i .i64 c] => some (true, .b (spB a b c))
  | 44, [.agg [.i .i64 a, .i .i64 b], .i .i64 c] => some (true, .b (spB a b c))
  | _, _ => none
theorem Sa_ok : SpecOK Try.prog Sa := by
  intro f args pre v h hp
  unfold Sa at h
  split at h
  · cases h; exact con39 _ _ _
  · cases h; exact con43 _ _ _
  · cases h; exact con40 _ _ _
  · cases h; exact con44 _ _ _
  · cases h

abbrev Wr := IntKind.i64.wrap
def okR (lo hi r u s m : Int) : Bool := spB lo hi 10000 && (inB r 1 100 && (inB u 1 100 && (inB s 0 100 && inB m 0 100)))
def low1 (lo r u s : Int) : Int := Wr ((Wr (lo * Wr (Wr (100 + s) * Wr (r + u)))).tdiv (Wr (200 * r)))
def high1 (hi r u s m : Int) : Int := Wr ((Wr (Wr (Wr (Wr (hi * Wr (Wr (100 + s) * Wr (r + u))) * Wr (100 + m)) + Wr (20000 * r)) - 1)).tdiv (Wr (20000 * r)))
def low2 (lo r u s : Int) : Int := Wr ((Wr (Wr (lo * Wr (100 + s)) * Wr (r + u))).tdiv (Wr (200 * r)))
def high2 (hi r u s m : Int) : Int := Wr ((Wr (Wr (Wr (Wr (Wr (hi * Wr (100 + s)) * Wr (100 + m)) * Wr (r + u)) + Wr (20000 * r)) - 1)).tdiv (Wr (20000 * r)))
def rt (l h e : Int) : AV := .tup [.agg [.i .i64 l, .i .i64 h], .i .i64 e]

theorem eq19 (lo hi r u s m : Int) : evF Try.prog Sa (ro 19) (fun _ _ => none) Try.f19 [.agg [.i .i64 lo, .i .i64 hi], .i .i64 r, .i .i64 u, .i .i64 s, .i .i64 m] =
    cond (!spB lo hi 10000) (some (rt 0 0 1)) (cond (cond false true (!inB r 1 100)) (some (rt 0 0 1)) (cond (cond false true (!inB u 1 100)) (some (rt 0 0 1)) (cond (cond false true (!inB s 0 100)) (some (rt 0 0 1)) (cond (cond false true (!inB m 0 100)) (some (rt 0 0 1))
      (cond (decide (Wr (200 * r) = 0)) none (cond (decide (Wr (20000 * r) = 0)) none (some (rt (low1 lo r u s) (high1 hi r u s m) 0)))))))) := by kernel_rfl
theorem eq20 (lo hi r u s m : Int) : evF Try.prog Sa (ro 20) (fun _ _ => none) Try.f20 [.agg [.i .i64 lo, .i .i64 hi], .i .i64 r, .i .i64 u, .i .i64 s, .i .i64 m] =
    cond (!spB lo hi 10000) (some (rt 0 0 1)) (cond (cond false true (!inB r 1 100)) (some (rt 0 0 1)) (cond (cond false true (!inB u 1 100)) (some (rt 0 0 1)) (cond (cond false true (!inB s 0 100)) (some (rt 0 0 1)) (cond (cond false true (!inB m 0 100)) (some (rt 0 0 1))
      (cond (decide (Wr (200 * r) = 0)) none (cond (decide (Wr (20000 * r) = 0)) none (some (rt (low2 lo r u s) (high2 hi r u s m) 0)))))))) := by kernel_rfl
end Go.Proofs.Yteclfchlejocmaa
