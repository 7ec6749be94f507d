/-
  Two seasons take what one takes that takes both their spans, as far as nothing is gone below 0, and a season that takes nothing changes nothing, for every skin and any two seasons (statement WearTwice); this text is a part of that proof.
-/
import Derived.Test.YteclfchlejocmaaEc
import Derived.KernelRfl
import Derived.Test.YteclfchlejocmaaProg
set_option linter.unusedVariables false
namespace Go.Proofs.Yteclfchlejocmaa
open Go Go.Ev
def roTab : List (Nat × List Nat) := [(3, [5, 7]), (4, [11, 13]), (5, [7, 9, 13, 14]), (6, [7, 9, 11]), (7, [7, 9]), (8, [7, 9, 10]), (9, [9, 11]), (10, [7, 12]), (11, [7, 9, 10, 11]), (12, [4, 9, 12, 15, 18, 20]), (13, [4]), (14, [1, 3]), (15, [4]), (16, [4]), (17, [5, 7, 9, 10]), (18, [5]), (19, [10]), (20, [10]), (22, [3, 6]), (23, [3, 6]), (25, [4, 8, 11]), (26, [4, 8, 11, 15]), (27, [2, 4, 7]), (31, [0]), (32, [4, 5]), (33, [4, 5, 7]), (35, [4, 5]), (36, [2, 4, 5, 6, 7, 9]), (42, [9, 10, 11]), (46, [4, 6]), (47, [1, 2]), (48, [4]), (49, [1, 2]), (50, [4]), (59, [8]), (73, [4])]
def lookN : List (Nat × List Nat) → Nat → List Nat
  | [], _ => []
  | (k, l) :: r, f => cond (Nat.beq k f) l (lookN r f)
def ro (f : FuncId) (t : Nat) : Bool := !(lookN roTab f).any (Nat.beq t)
end Go.Proofs.Yteclfchlejocmaa

set_option maxRecDepth 100000
namespace Go.Proofs.Yteclfchlejocmaa
open Go Go.Ev

noncomputable def sI (es : List (List AV)) (l i : Nat) : St := { t := [(0, .yl l), (1, .rp [.sl 32] [.rs 32 es] 0), (5, .rs 32 es), (6, .i .i64 es.length), (7, .i .i64 i)], m := [], nx := 0, nt := 26 }
/-- A side of an outline. -/
def side (es : List (List AV)) (i j : Nat) : AV :=
  .agg [.i .i64 (toI ((es.getD i []).getD 0 .u)), .i .i64 (toI ((es.getD i []).getD 1 .u)), .i .i64 (toI ((es.getD j []).getD 0 .u)), .i .i64 (toI ((es.getD j []).getD 1 .u))]
def sidesL (es : List (List AV)) : List AV := (List.range es.length).map fun i => side es i ((i + 1) % es.length)

noncomputable def sr1 : Code := match Try.f73.body with | some (.seq _ (.block 0 (.loop (.seq a _)))) => a | _ => .skip
noncomputable def sr2 : Code := match Try.f73.body with | some (.seq _ (.block 0 (.loop (.seq _ (.seq _ (.seq (.block 1 (.seq a _)) _)))))) => a | _ => .skip
noncomputable def sr4 : Code := match Try.f73.body with | some (.seq _ (.block 0 (.loop (.seq _ (.seq _ (.seq _ a)))))) => a | _ => .skip
noncomputable def sops : Array Oper := match Try.f73.body with | some (.seq _ (.block 0 (.loop (.seq _ (.seq _ (.seq (.block 1 (.seq _ (.seq (.region _ o _) _))) _)))))) => o | _ => #[]
noncomputable def sr0 : Code := match Try.f73.body with | some (.seq a _) => a | _ => .skip

theorem sides_eq (es : List (List AV)) (l i : Nat) : sliceT Try.prog (fun _ _ => none) (ro 73) (fun _ _ => none) sr1 sr2 8 sops 11 12 22 [0,1,5,6,7] (sI es l i) =
    cond (decide ((i : Int) < (es.length : Int))) (cond (inb i es.length) (cond (decide ((es.length : Int) = 0)) none (cond (inb ((IntKind.i64.wrap ((i : Int) + 1)).tmod es.length) es.length)
      (some (some (.yl l, side es i ((IntKind.i64.wrap ((i : Int) + 1)).tmod es.length).toNat, sI es l i))) none)) none) (some none) := by kernel_rfl
theorem sides_eq4 (es : List (List AV)) (l i : Nat) : afterR Try.prog (fun _ _ => none) (ro 73) (fun _ _ => none) sr4 [0,1,5,6,7] (sI es l i) =
    some { t := [(0, .yl l), (1, .rp [.sl 32] [.rs 32 es] 0), (5, .rs 32 es), (6, .i .i64 es.length), (7, .i .i64 (IntKind.i64.wrap ((i : Int) + 1)))], m := [], nx := 0, nt := 26 } := by kernel_rfl
theorem sides_eq0 (es : List (List AV)) (l : Nat) : afterR Try.prog (fun _ _ => none) (ro 73) (fun _ _ => none) sr0 [0,1,5,6,7] (initSt 26 [.yl l, .rp [.sl 32] [.rs 32 es] 0]) = some (sI es l 0) := by kernel_rfl

theorem wrap_id {x : Int} (h0 : -9223372036854775808 ≤ x) (h1 : x ≤ 9223372036854775807) : IntKind.i64.wrap x = x := by
  simp only [IntKind.wrap, IntKind.signed, IntKind.bits]
  simp
  omega
theorem cut_of {ops : Array Oper} {c m : Nat} (hs : ops.size = c + m) (h : (List.range' c m).all (fun j => Nat.beq ((befs ops).getD j 0) (2 ^ j - 1)) = true) : ∀ j o, ops[j]? = some o → c ≤ j → ∀ i, i < j → bef ops j i := by
  intro j o ho hj i hi
  have hlt := (Array.getElem?_eq_some_iff.1 ho).1
  have := Nat.eq_of_beq_eq_true (List.all_eq_true.1 h j (List.mem_range'_1.2 ⟨hj, by omega⟩))
  unfold bef
  rw [this, Nat.testBit_two_pow_sub_one]
  simpa using hi
theorem plainL_map {α : Type} (f : α → AV) : ∀ (l : List α), (∀ x, x ∈ l → plain (f x) = true) → plainL (l.map f) = true
  | [], _ => rfl
  | a :: l, h => by simp [plainL, h a (by simp), plainL_map f l fun x hx => h x (by simp [hx])]

theorem sides_con (es : List (List AV)) (hlen : es.length ≤ 9223372036854775807) (hp : plainL (sidesL es) = true) : SeqCon Try.prog 73 [.rp [.sl 32] [.rs 32 es] 0] ((sidesL es).map fun x => [x]) := by
  have hxl : (sidesL es).length = es.length := by simp [sidesL]
  refine iter_slice (S := fun _ _ => none) (RO := ro 73) (L := fun _ _ => none) (fun f args pre v h => by cases h) (by kernel_rfl) (fn := Try.f73) (r0 := sr0) (r1 := sr1) (r2 := sr2) (r4 := sr4) (t8 := 8) (ops := sops) (keep := [0,1,5,6,7]) (c := 11) (yd := 23) (yv := 12) (xv := 22) (z := 24) (stI := fun l i => sI es l i)
    Try.func73 (by kernel_rfl) rfl rfl (fun lo p => ⟨trivial, trivial, trivial, trivial⟩) (by kernel_rfl) rfl (cut_of (m := 2) rfl (by kernel_rfl)) rfl rfl rfl rfl rfl rfl rfl rfl rfl rfl ⟨by decide, by decide⟩ hp (show (2 : Nat) ≤ 26 by decide)
    (fun l => sides_eq0 es l) (fun l i hi => ?_) (fun l => ?_) (fun l i hi => ?_) (fun l i => ⟨rfl, rfl, rfl, rfl⟩)
  · rw [hxl] at hi
    have h1 : (i : Int) < (es.length : Int) := by omega
    have hw : IntKind.i64.wrap ((i : Int) + 1) = (i : Int) + 1 := wrap_id (by omega) (by omega)
    have ht : (((i : Int) + 1).tmod (es.length : Int)) = (((i + 1) % es.length : Nat) : Int) := by
      rw [show ((i : Int) + 1) = ((i + 1 : Nat) : Int) by omega, ← Int.ofNat_tmod]
    have hm := Nat.mod_lt (i + 1) (show 0 < es.length by omega)
    have hg : (sidesL es).getD i .u = side es i ((i + 1) % es.length) := by simp [sidesL, List.getD_eq_getElem?_getD, hi]
    rw [sides_eq, hw, ht, hg]
    generalize (i + 1) % es.length = q at hm
    have e1 : inb (i : Int) es.length = true := by simp [inb, hi]
    have e2 : inb (q : Int) es.length = true := by simp [inb, hm]
    have e3 : decide ((es.length : Int) = 0) = false := decide_eq_false (by omega)
    simp only [h1, decide_true, cond_true, e1, e2, e3, cond_false, Int.toNat_natCast]
  · rw [hxl, sides_eq]
    have h1 : ¬ ((es.length : Int) < (es.length : Int)) := by omega
    simp only [h1, decide_false, cond_false]
  · rw [hxl] at hi
    have hw : IntKind.i64.wrap ((i : Int) + 1) = (i : Int) + 1 := wrap_id (by omega) (by omega)
    rw [sides_eq4, hw]
    rfl
end Go.Proofs.Yteclfchlejocmaa

set_option maxRecDepth 100000
namespace Go.Proofs.Yteclfchlejocmaa
open Go Go.Ev

def its : ISpec := fun g caps => cond (Nat.beq g 73) (match caps with
  | [.rp [.sl 32] [.rs 32 es] 0] => cond (Nat.ble es.length 9223372036854775807 && plainL (sidesL es)) (some ((sidesL es).map fun x => [x])) none
  | _ => none) none
theorem its_ok : IOK Try.prog its := by
  intro g caps xs h
  unfold its at h
  obtain ⟨hg, h2⟩ := cond_some h
  clear h
  have hg := Nat.eq_of_beq_eq_true hg
  subst hg
  split at h2
  · obtain ⟨hc, h3⟩ := cond_some h2
    have hc := Bool.and_eq_true_iff.1 hc
    cases h3
    exact sides_con _ (Nat.le_of_ble_eq_true hc.1) hc.2
  · cases h2
theorem mixed : Try.prog.follows .mixedOrders = true := by kernel_rfl
theorem names0 : (Try.prog.funcs.toList.all fun fn => !(fn.name == "runtime.NumGoroutine")) = true := by kernel_rfl
theorem names (f : FuncId) (fn : Func) (h : Try.prog.funcs[f]? = some fn) : (fn.name == "runtime.NumGoroutine") = false := by
  have := List.all_eq_true.1 names0 fn (Array.mem_toList_iff.2 (Array.mem_of_getElem? h))
  simpa using this
noncomputable def S1 : Ev.Spec := runS Try.prog its ro (fun _ _ => none) 300 5 12
theorem S1_ok : SpecOK Try.prog S1 := runS_ok its_ok mixed names (fun f args pre v h => by cases h) 12
theorem lives_eq : S1 14 [] = some (true, .b true) := by kernel_rfl
theorem lives_con : Con Try.prog 14 [] (.b true) := S1_ok _ _ _ _ lives_eq rfl
end Go.Proofs.Yteclfchlejocmaa

set_option maxRecDepth 100000
namespace Go.Proofs.Yteclfchlejocmaa
open Go Go.Ev

theorem con_plain {S : Ev.Spec} (hs : SpecOK Try.prog S) {f : FuncId} {fn : Func} {c : Code} {args : List AV} {v : AV} (hf : Try.prog.funcs[f]? = some fn) (hb : fn.body = some c) (hn : nest false c = true) (he : evF Try.prog S (ro f) (fun _ _ => none) fn args = some v) : Con Try.prog f args v :=
  con_of hs mixed hf hb (names f fn hf) (lok_auto (I := fun _ _ => none) (fun _ _ _ h => by cases h) c 0 0 c [] 0 false (locate_nil c) hn) he
theorem none_ok : SpecOK Try.prog (fun _ _ => none) := fun f args pre v h => by cases h

def inB (a b c : Int) : Bool := decide (b ≤ a) && decide (a ≤ c)
def spB (a b c : Int) : Bool := decide (0 ≤ a) && (decide (a ≤ b) && decide (b ≤ c))

theorem eq39 (a b c : Int) : evF Try.prog (fun _ _ => none) (ro 39) (fun _ _ => none) Try.f39 [.i .i64 a, .i .i64 b, .i .i64 c] = cond (decide (b ≤ a)) (some (.b (cond true (decide (a ≤ c)) false))) (some (.b false)) := by kernel_rfl
theorem eq43 (a b c : Int) : evF Try.prog (fun _ _ => none) (ro 43) (fun _ _ => none) Try.f43 [.i .i64 a, .i .i64 b, .i .i64 c] = cond (decide (a ≥ b)) (some (.b (cond true (decide (a ≤ c)) false))) (some (.b false)) := by kernel_rfl
theorem eq40 (a b c : Int) : evF Try.prog (fun _ _ => none) (ro 40) (fun _ _ => none) Try.f40 [.agg [.i .i64 a, .i .i64 b], .i .i64 c] = cond (decide (0 ≤ a)) (cond (decide (a ≤ b)) (some (.b (cond true (decide (b ≤ c)) false))) (some (.b false))) (some (.b false)) := by kernel_rfl
theorem eq44 (a b c : Int) : evF Try.prog (fun _ _ => none) (ro 44) (fun _ _ => none) Try.f44 [.agg [.i .i64 a, .i .i64 b], .i .i64 c] = cond (decide (0 ≤ a)) (cond (decide (a ≤ b)) (some (.b (cond true (decide (b ≤ c)) false))) (some (.b false))) (some (.b false)) := by kernel_rfl

theorem con39 (a b c : Int) : Con Try.prog 39 [.i .i64 a, .i .i64 b, .i .i64 c] (.b (inB a b c)) :=
  con_plain none_ok Try.func39 rfl (by kernel_rfl) (by rw [eq39]; unfold inB; cases decide (b ≤ a) <;> rfl)
theorem con43 (a b c : Int) : Con Try.prog 43 [.i .i64 a, .i .i64 b, .i .i64 c] (.b (inB a b c)) :=
  con_plain none_ok Try.func43 rfl (by kernel_rfl) (by rw [eq43]; show cond (decide (b ≤ a)) _ _ = _; unfold inB; cases decide (b ≤ a) <;> rfl)
theorem con40 (a b c : Int) : Con Try.prog 40 [.agg [.i .i64 a, .i .i64 b], .i .i64 c] (.b (spB a b c)) :=
  con_plain none_ok Try.func40 rfl (by kernel_rfl) (by rw [eq40]; unfold spB; cases decide (0 ≤ a) <;> cases decide (a ≤ b) <;> rfl)
theorem con44 (a b c : Int) : Con Try.prog 44 [.agg [.i .i64 a, .i .i64 b], .i .i64 c] (.b (spB a b c)) :=
  con_plain none_ok Try.func44 rfl (by kernel_rfl) (by rw [eq44]; unfold spB; cases decide (0 ≤ a) <;> cases decide (a ≤ b) <;> rfl)

/-- The small functions. -/
def Sa : Ev.Spec := fun f args => match f, args with
  | 39, [.i .i64 a, .i .i64 b, .i .i64 c] => some (true, .b (inB a b c))
  | 43, [.i .i64 a, .i .i64 b, .i .i64 c] => some (true, .b (inB a b c))
  | 40, [.agg [.i .i64 a, .i .i64 b], .i .i64 c] => some (true, .b (spB a b c))
  | 44, [.agg [.i .i64 a, .i .i64 b], .i .i64 c] => some (true, .b (spB a b c))
  | _, _ => none
theorem Sa_ok : SpecOK Try.prog Sa := by
  intro f args pre v h hp
  unfold Sa at h
  split at h
  · cases h; exact con39 _ _ _
  · cases h; exact con43 _ _ _
  · cases h; exact con40 _ _ _
  · cases h; exact con44 _ _ _
  · cases h

abbrev Wr := IntKind.i64.wrap
def okR (lo hi r u s m : Int) : Bool := spB lo hi 10000 && (inB r 1 100 && (inB u 1 100 && (inB s 0 100 && inB m 0 100)))
def low1 (lo r u s : Int) : Int := Wr ((Wr (lo * Wr (Wr (100 + s) * Wr (r + u)))).tdiv (Wr (200 * r)))
def high1 (hi r u s m : Int) : Int := Wr ((Wr (Wr (Wr (Wr (hi * Wr (Wr (100 + s) * Wr (r + u))) * Wr (100 + m)) + Wr (20000 * r)) - 1)).tdiv (Wr (20000 * r)))
def low2 (lo r u s : Int) : Int := Wr ((Wr (Wr (lo * Wr (100 + s)) * Wr (r + u))).tdiv (Wr (200 * r)))
def high2 (hi r u s m : Int) : Int := Wr ((Wr (Wr (Wr (Wr (Wr (hi * Wr (100 + s)) * Wr (100 + m)) * Wr (r + u)) + Wr (20000 * r)) - 1)).tdiv (Wr (20000 * r)))
def rt (l h e : Int) : AV := .tup [.agg [.i .i64 l, .i .i64 h], .i .i64 e]

theorem eq19 (lo hi r u s m : Int) : evF Try.prog Sa (ro 19) (fun _ _ => none) Try.f19 [.agg [.i .i64 lo, .i .i64 hi], .i .i64 r, .i .i64 u, .i .i64 s, .i .i64 m] =
    cond (!spB lo hi 10000) (some (rt 0 0 1)) (cond (cond false true (!inB r 1 100)) (some (rt 0 0 1)) (cond (cond false true (!inB u 1 100)) (some (rt 0 0 1)) (cond (cond false true (!inB s 0 100)) (some (rt 0 0 1)) (cond (cond false true (!inB m 0 100)) (some (rt 0 0 1))
      (cond (decide (Wr (200 * r) = 0)) none (cond (decide (Wr (20000 * r) = 0)) none (some (rt (low1 lo r u s) (high1 hi r u s m) 0)))))))) := by kernel_rfl
theorem eq20 (lo hi r u s m : Int) : evF Try.prog Sa (ro 20) (fun _ _ => none) Try.f20 [.agg [.i .i64 lo, .i .i64 hi], .i .i64 r, .i .i64 u, .i .i64 s, .i .i64 m] =
    cond (!spB lo hi 10000) (some (rt 0 0 1)) (cond (cond false true (!inB r 1 100)) (some (rt 0 0 1)) (cond (cond false true (!inB u 1 100)) (some (rt 0 0 1)) (cond (cond false true (!inB s 0 100)) (some (rt 0 0 1)) (cond (cond false true (!inB m 0 100)) (some (rt 0 0 1))
      (cond (decide (Wr (200 * r) = 0)) none (cond (decide (Wr (20000 * r) = 0)) none (some (rt (low2 lo r u s) (high2 hi r u s m) 0)))))))) := by kernel_rfl
end Go.Proofs.Yteclfchlejocmaa

set_option maxRecDepth 100000
namespace Go.Proofs.Yteclfchlejocmaa
open Go Go.Ev

theorem inB_true {a b c : Int} : inB a b c = true ↔ b ≤ a ∧ a ≤ c := by simp [inB]
theorem spB_true {a b c : Int} : spB a b c = true ↔ 0 ≤ a ∧ a ≤ b ∧ b ≤ c := by simp [spB]
theorem mulb {x y X Y : Int} (h0 : 0 ≤ x) (h1 : x ≤ X) (h2 : 0 ≤ y) (h3 : y ≤ Y) : 0 ≤ x * y ∧ x * y ≤ X * Y :=
  ⟨Int.mul_nonneg h0 h2, Int.le_trans (Int.mul_le_mul_of_nonneg_right h1 h2) (Int.mul_le_mul_of_nonneg_left h3 (by omega))⟩
theorem wrap_mul {x y X Y : Int} (h0 : 0 ≤ x) (h1 : x ≤ X) (h2 : 0 ≤ y) (h3 : y ≤ Y) (h : X * Y ≤ 9223372036854775807) : Wr (x * y) = x * y := by
  obtain ⟨q1, q2⟩ := mulb h0 h1 h2 h3
  exact wrap_id (by omega) (by omega)

theorem rate_same {lo hi r u s m : Int} (h : okR lo hi r u s m = true) : low1 lo r u s = low2 lo r u s ∧ high1 hi r u s m = high2 hi r u s m := by
  simp only [okR, Bool.and_eq_true, spB_true, inB_true] at h
  obtain ⟨⟨l0, l1, l2⟩, ⟨r0, r1⟩, ⟨u0, u1⟩, ⟨s0, s1⟩, m0, m1⟩ := h
  have eA : Wr (100 + s) = 100 + s := wrap_id (by omega) (by omega)
  have eB : Wr (r + u) = r + u := wrap_id (by omega) (by omega)
  have eM : Wr (100 + m) = 100 + m := wrap_id (by omega) (by omega)
  simp only [low1, low2, high1, high2, eA, eB, eM]
  obtain ⟨A, hA⟩ : ∃ A, A = 100 + s := ⟨_, rfl⟩
  obtain ⟨B, hB⟩ : ∃ B, B = r + u := ⟨_, rfl⟩
  obtain ⟨M, hM⟩ : ∃ M, M = 100 + m := ⟨_, rfl⟩
  rw [← hA, ← hB, ← hM]
  have bAB := mulb (x := A) (X := 200) (y := B) (Y := 200) (by omega) (by omega) (by omega) (by omega)
  have eAB : Wr (A * B) = A * B := wrap_mul (X := 200) (Y := 200) (by omega) (by omega) (by omega) (by omega) (by omega)
  have bl := mulb (x := lo) (X := 10000) (y := A) (Y := 200) (by omega) (by omega) (by omega) (by omega)
  have bh := mulb (x := hi) (X := 10000) (y := A) (Y := 200) (by omega) (by omega) (by omega) (by omega)
  have e1 : Wr (lo * A) = lo * A := wrap_id (by omega) (by omega)
  have e2 : Wr (hi * A) = hi * A := wrap_id (by omega) (by omega)
  have bhAB := mulb (x := hi) (X := 10000) (y := A * B) (Y := 40000) (by omega) (by omega) bAB.1 (by omega)
  have e3 : Wr (hi * (A * B)) = hi * (A * B) := wrap_id (by omega) (by omega)
  have bhAM := mulb (x := hi * A) (X := 2000000) (y := M) (Y := 200) bh.1 (by omega) (by omega) (by omega)
  have e4 : Wr (hi * A * M) = hi * A * M := wrap_id (by omega) (by omega)
  rw [eAB, e1, e2, e3, e4]
  have f1 : lo * (A * B) = lo * A * B := (Int.mul_assoc lo A B).symm
  have f2 : hi * (A * B) * M = hi * A * M * B := by
    rw [← Int.mul_assoc hi A B, Int.mul_assoc (hi * A) B M, Int.mul_comm B M, ← Int.mul_assoc]
  rw [f1, f2]
  exact ⟨rfl, rfl⟩

def lowE (lo hi r u s m : Int) : Int := cond (okR lo hi r u s m) (low2 lo r u s) 0
def highE (lo hi r u s m : Int) : Int := cond (okR lo hi r u s m) (high2 hi r u s m) 0
def errE (lo hi r u s m : Int) : Int := cond (okR lo hi r u s m) 0 1

theorem nz {k r : Int} (hk : 1 ≤ k ∧ k ≤ 20000) (hr : inB r 1 100 = true) : decide (Wr (k * r) = 0) = false := by
  obtain ⟨r0, r1⟩ := inB_true.1 hr
  have b := mulb (x := k) (X := 20000) (y := r) (Y := 100) (by omega) (by omega) (by omega) (by omega)
  have e : Wr (k * r) = k * r := wrap_id (by omega) (by omega)
  rw [e]
  have : 0 < k * r := Int.mul_pos (by omega) (by omega)
  exact decide_eq_false (by omega)

theorem con20 (lo hi r u s m : Int) : Con Try.prog 20 [.agg [.i .i64 lo, .i .i64 hi], .i .i64 r, .i .i64 u, .i .i64 s, .i .i64 m] (rt (lowE lo hi r u s m) (highE lo hi r u s m) (errE lo hi r u s m)) := by
  refine con_plain Sa_ok Try.func20 rfl (by kernel_rfl) ?_
  rw [eq20]
  simp only [lowE, highE, errE, okR]
  cases h1 : spB lo hi 10000 <;> try rfl
  cases h2 : inB r 1 100 <;> try rfl
  cases h3 : inB u 1 100 <;> try rfl
  cases h4 : inB s 0 100 <;> try rfl
  cases h5 : inB m 0 100 <;> try rfl
  rw [nz (by omega) h2, nz (by omega) h2]
  rfl
theorem con19 (lo hi r u s m : Int) : Con Try.prog 19 [.agg [.i .i64 lo, .i .i64 hi], .i .i64 r, .i .i64 u, .i .i64 s, .i .i64 m] (rt (lowE lo hi r u s m) (highE lo hi r u s m) (errE lo hi r u s m)) := by
  refine con_plain Sa_ok Try.func19 rfl (by kernel_rfl) ?_
  rw [eq19]
  simp only [lowE, highE, errE]
  cases h0 : okR lo hi r u s m with
  | true =>
    obtain ⟨g1, g2⟩ := rate_same h0
    rw [g1, g2]
    simp only [okR, Bool.and_eq_true] at h0
    obtain ⟨h1, h2, h3, h4, h5⟩ := h0
    rw [h1, h2, h3, h4, h5, nz (by omega) h2, nz (by omega) h2]
    rfl
  | false =>
    simp only [okR] at h0
    cases h1 : spB lo hi 10000 <;> try rfl
    cases h2 : inB r 1 100 <;> try rfl
    cases h3 : inB u 1 100 <;> try rfl
    cases h4 : inB s 0 100 <;> try rfl
    cases h5 : inB m 0 100 <;> try rfl
    rw [h1, h2, h3, h4, h5] at h0
    cases h0

/-- What the law calls. -/
def Sl : Ev.Spec := fun f args => match f, args with
  | 14, [] => some (true, .b true)
  | 19, [.agg [.i .i64 lo, .i .i64 hi], .i .i64 r, .i .i64 u, .i .i64 s, .i .i64 m] => some (true, rt (lowE lo hi r u s m) (highE lo hi r u s m) (errE lo hi r u s m))
  | 20, [.agg [.i .i64 lo, .i .i64 hi], .i .i64 r, .i .i64 u, .i .i64 s, .i .i64 m] => some (true, rt (lowE lo hi r u s m) (highE lo hi r u s m) (errE lo hi r u s m))
  | _, _ => none
theorem Sl_ok : SpecOK Try.prog Sl := by
  intro f args pre v h hp
  unfold Sl at h
  split at h
  · cases h; exact lives_con
  · cases h; exact con19 _ _ _ _ _ _
  · cases h; exact con20 _ _ _ _ _ _
  · cases h
theorem eq4 (lo hi r u s m : Int) : evF Try.prog Sl (ro 4) (fun _ _ => none) Try.f4 [.agg [.i .i64 lo, .i .i64 hi], .i .i64 r, .i .i64 u, .i .i64 s, .i .i64 m] =
    cond ((lowE lo hi r u s m == lowE lo hi r u s m) && (highE lo hi r u s m == highE lo hi r u s m)) (cond (errE lo hi r u s m == errE lo hi r u s m) (some (.b true)) (some (.b false))) (some (.b false)) := by kernel_rfl
end Go.Proofs.Yteclfchlejocmaa

set_option maxRecDepth 100000
namespace Go.Proofs.Yteclfchlejocmaa
open Go Go.Ev

theorem WT_int {a : AV} {k : IntKind} (h : WT Try.prog (.int k) a) : ∃ n, a = .i k n ∧ k.min ≤ n ∧ n ≤ k.max := by
  cases h with
  | int h1 h2 => exact ⟨_, rfl, h1, h2⟩
theorem ty_int {a : AV} {t : TypeId} (hA : Ev.isAgg Try.prog t = false) (hc : cts Try.prog t = [.int .i64]) (h : TyArg Try.prog t a) : ∃ n, a = .i .i64 n ∧ IntKind.i64.min ≤ n ∧ n ≤ IntKind.i64.max := by
  rcases h with ⟨h, _⟩ | ⟨_, h⟩
  · rw [hA] at h; cases h
  · rw [hc] at h; exact WT_int h
theorem ty_agg {a : AV} {t : TypeId} {c : List CT} (hA : Ev.isAgg Try.prog t = true) (hc : cts Try.prog t = c) (h : TyArg Try.prog t a) : ∃ bs, a = .agg bs ∧ WTs Try.prog c bs := by
  rcases h with ⟨_, bs, h1, h2⟩ | ⟨h, _⟩
  · exact ⟨bs, h1, by rw [← hc]; exact h2⟩
  · rw [hA] at h; cases h
theorem WTs_cons {c : CT} {cs : List CT} {bs : List AV} (h : WTs Try.prog (c :: cs) bs) : ∃ a r, bs = a :: r ∧ WT Try.prog c a ∧ WTs Try.prog cs r := by
  obtain ⟨h1, h2⟩ := h
  cases bs with
  | nil => simp at h1
  | cons a r =>
    refine ⟨a, r, rfl, by simpa using h2 0 (by simp), by simpa using h1, fun j hj => ?_⟩
    simpa using h2 (j + 1) (by simpa using hj)
theorem WTs_nil {bs : List AV} (h : WTs Try.prog [] bs) : bs = [] := by simpa using h.1
theorem tyArgs_cons {t : TypeId} {ts : List TypeId} {bs : List AV} (h : TyArgs Try.prog (t :: ts) bs) : ∃ a r, bs = a :: r ∧ TyArg Try.prog t a ∧ TyArgs Try.prog ts r := by
  cases bs with
  | nil => exact h.elim
  | cons a r => exact ⟨a, r, rfl, h.1, h.2⟩
theorem tyArgs_nil {bs : List AV} (h : TyArgs Try.prog [] bs) : bs = [] := by
  cases bs with
  | nil => rfl
  | cons a r => exact h.elim

theorem rates_law (avs : List AV) (h : TyArgs Try.prog Try.f4.params.toList avs) : Con Try.prog 4 avs (.b true) := by
  obtain ⟨a0, r0, rfl, h0, h⟩ := tyArgs_cons h
  obtain ⟨a1, r1, rfl, h1, h⟩ := tyArgs_cons h
  obtain ⟨a2, r2, rfl, h2, h⟩ := tyArgs_cons h
  obtain ⟨a3, r3, rfl, h3, h⟩ := tyArgs_cons h
  obtain ⟨a4, r4, rfl, h4, h⟩ := tyArgs_cons h
  obtain rfl := tyArgs_nil h
  obtain ⟨bs, rfl, hw⟩ := ty_agg (c := [.int .i64, .int .i64]) (by kernel_rfl) (by kernel_rfl) h0
  obtain ⟨b0, q0, rfl, w0, hw⟩ := WTs_cons hw
  obtain ⟨b1, q1, rfl, w1, hw⟩ := WTs_cons hw
  obtain rfl := WTs_nil hw
  obtain ⟨lo, rfl, _⟩ := WT_int w0
  obtain ⟨hi, rfl, _⟩ := WT_int w1
  obtain ⟨r, rfl, _⟩ := ty_int (by kernel_rfl) (by kernel_rfl) h1
  obtain ⟨u, rfl, _⟩ := ty_int (by kernel_rfl) (by kernel_rfl) h2
  obtain ⟨s, rfl, _⟩ := ty_int (by kernel_rfl) (by kernel_rfl) h3
  obtain ⟨m, rfl, _⟩ := ty_int (by kernel_rfl) (by kernel_rfl) h4
  refine con_plain Sl_ok Try.func4 rfl (by kernel_rfl) ?_
  rw [eq4]
  simp
end Go.Proofs.Yteclfchlejocmaa
