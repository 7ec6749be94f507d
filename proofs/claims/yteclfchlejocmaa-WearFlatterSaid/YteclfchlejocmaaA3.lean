/-
  The law WearRates returns true for every climate and all numbers, and leaves its arguments as they were. No conditions.
-/
import Derived.Test.YteclfchlejocmaaA1
import Derived.Test.YteclfchlejocmaaEvY
set_option maxRecDepth 100000
namespace Go.Proofs.Yteclfchlejocmaa
open Go Go.Ev

noncomputable def sI (es : List (List AV)) (l i : Nat) : St := { t := [(0, .yl l), (1, .rp [.sl 32] [.rs 32 es] 0), (5, .rs 32 es), (6, .i .i64 es.length), (7, .i .i64 i)], m := [], nx := 0, nt := 26 }
/-- A side of an outline. -/
def side (es : List (List AV)) (i j : Nat) : AV :=
  .agg [.i .i64 (toI ((es.getD i []).getD 0 .u)), .i .i64 (toI ((es.getD i []).getD 1 .u)), .i .i64 (toI ((es.getD j []).getD 0 .u)), .i .i64 (toI ((es.getD j []).getD 1 .u))]
def sidesL (es : List (List AV)) : List AV := (List.range es.length).map fun i => side es i ((i + 1) % es.length)

noncomputable def sr1 : Code := match Try.f73.body with | some (.seq _ (.block 0 (.loop (.seq a _)))) => a | _ => .skip
noncomputable def sr2 : Code := match Try.f73.body with | some (.seq _ (.block 0 (.loop (.seq _ (.seq _ (.seq (.block 1 (.seq a _)) _)))))) => a | _ => .skip
noncomputable def sr4 : Code := match Try.f73.body with | some (.seq _ (.block 0 (.loop (.seq _ (.seq _ (.seq _ a)))))) => a | _ => .skip
noncomputable def sops : Array Oper := match Try.f73.body with | some (.seq _ (.block 0 (.loop (.seq _ (.seq _ (.seq (.block 1 (.seq _ (.seq (.region _ o _) _))) _)))))) => o | _ => #[]
noncomputable def sr0 : Code := match Try.f73.body with | some (.seq a _) => a | _ => .skip

theorem sides_eq (es : List (List AV)) (l i : Nat) : sliceT Try.prog (fun _ _ => none) (ro 73) (fun _ _ => none) sr1 sr2 8 sops 11 12 22 [0,1,5,6,7] (sI es l i) =
    cond (decide ((i : Int) < (es.length : Int))) (cond (inb i es.length) (cond (decide ((es.length : Int) = 0)) none (cond (inb ((IntKind.i64.wrap ((i : Int) + 1)).tmod es.length) es.length)
      (some (some (.yl l, side es i ((IntKind.i64.wrap ((i : Int) + 1)).tmod es.length).toNat, sI es l i))) none)) none) (some none) := by kernel_rfl
theorem sides_eq4 (es : List (List AV)) (l i : Nat) : afterR Try.prog (fun _ _ => none) (ro 73) (fun _ _ => none) sr4 [0,1,5,6,7] (sI es l i) =
    some { t := [(0, .yl l), (1, .rp [.sl 32] [.rs 32 es] 0), (5, .rs 32 es), (6, .i .i64 es.length), (7, .i .i64 (IntKind.i64.wrap ((i : Int) + 1)))], m := [], nx := 0, nt := 26 } := by kernel_rfl
theorem sides_eq0 (es : List (List AV)) (l : Nat) : afterR Try.prog (fun _ _ => none) (ro 73) (fun _ _ => none) sr0 [0,1,5,6,7] (initSt 26 [.yl l, .rp [.sl 32] [.rs 32 es] 0]) = some (sI es l 0) := by kernel_rfl

theorem wrap_id {x : Int} (h0 : -9223372036854775808 ≤ x) (h1 : x ≤ 9223372036854775807) : IntKind.i64.wrap x = x := by
  simp only [IntKind.wrap, IntKind.signed, IntKind.bits]
  simp
  omega
theorem cut_of {ops : Array Oper} {c m : Nat} (hs : ops.size = c + m) (h : (List.range' c m).all (fun j => Nat.beq ((befs ops).getD j 0) (2 ^ j - 1)) = true) : ∀ j o, ops[j]? = some o → c ≤ j → ∀ i, i < j → bef ops j i := by
  intro j o ho hj i hi
  have hlt := (Array.getElem?_eq_some_iff.1 ho).1
  have := Nat.eq_of_beq_eq_true (List.all_eq_true.1 h j (List.mem_range'_1.2 ⟨hj, by omega⟩))
  unfold bef
  rw [this, Nat.testBit_two_pow_sub_one]
  simpa using hi
theorem plainL_map {α : Type} (f : α → AV) : ∀ (l : List α), (∀ x, x ∈ l → plain (f x) = true) → plainL (l.map f) = true
  | [], _ => rfl
  | a :: l, h => by simp [plainL, h a (by simp), plainL_map f l fun x hx => h x (by simp [hx])]

theorem sides_con (es : List (List AV)) (hlen : es.length ≤ 9223372036854775807) (hp : plainL (sidesL es) = true) : SeqCon Try.prog 73 [.rp [.sl 32] [.rs 32 es] 0] ((sidesL es).map fun x => [x]) := by
  have hxl : (sidesL es).length = es.length := by simp [sidesL]
  refine iter_slice (S := fun _ _ => none) (RO := ro 73) (L := fun _ _ => none) (fun f args pre v h => by cases h) (by kernel_rfl) (fn := Try.f73) (r0 := sr0) (r1 := sr1) (r2 := sr2) (r4 := sr4) (t8 := 8) (ops := sops) (keep := [0,1,5,6,7]) (c := 11) (yd := 23) (yv := 12) (xv := 22) (z := 24) (stI := fun l i => sI es l i)
    Try.func73 (by kernel_rfl) rfl rfl (fun lo p => ⟨trivial, trivial, trivial, trivial⟩) (by kernel_rfl) rfl (cut_of (m := 2) rfl (by kernel_rfl)) rfl rfl rfl rfl rfl rfl rfl rfl rfl rfl ⟨by decide, by decide⟩ hp (show (2 : Nat) ≤ 26 by decide)
    (fun l => sides_eq0 es l) (fun l i hi => ?_) (fun l => ?_) (fun l i hi => ?_) (fun l i => ⟨rfl, rfl, rfl, rfl⟩)
  · rw [hxl] at hi
    have h1 : (i : Int) < (es.length : Int) := by omega
    have hw : IntKind.i64.wrap ((i : Int) + 1) = (i : Int) + 1 := wrap_id (by omega) (by omega)
    have ht : (((i : Int) + 1).tmod (es.length : Int)) = (((i + 1) % es.length : Nat) : Int) := by
      rw [show ((i : Int) + 1) = ((i + 1 : Nat) : Int) by omega, ← Int.ofNat_tmod]
    have hm := Nat.mod_lt (i + 1) (show 0 < es.length by omega)
    have hg : (sidesL es).getD i .u = side es i ((i + 1) % es.length) := by simp [sidesL, List.getD_eq_getElem?_getD, hi]
    rw [sides_eq, hw, ht, hg]
    generalize (i + 1) % es.length = q at hm
    have e1 : inb (i : Int) es.length = true := by simp [inb, hi]
    have e2 : inb (q : Int) es.length = true := by simp [inb, hm]
    have e3 : decide ((es.length : Int) = 0) = false := decide_eq_false (by omega)
    simp only [h1, decide_true, cond_true, e1, e2, e3, cond_false, Int.toNat_natCast]
  · rw [hxl, sides_eq]
    have h1 : ¬ ((es.length : Int) < (es.length : Int)) := by omega
    simp only [h1, decide_false, cond_false]
  · rw [hxl] at hi
    have hw : IntKind.i64.wrap ((i : Int) + 1) = (i : Int) + 1 := wrap_id (by omega) (by omega)
    rw [sides_eq4, hw]
    rfl
end Go.Proofs.Yteclfchlejocmaa
