/-
  Two seasons take what one takes that takes both their spans, as far as nothing is gone below 0, and a season that takes nothing changes nothing, for every skin and any two seasons (statement WearTwice); this text is a part of that proof.
-/
import Derived.Test.YteclfchlejocmaaKa
import Derived.Test.YteclfchlejocmaaEc
set_option linter.unusedVariables false
set_option maxRecDepth 100000
namespace Go.Proofs.Yteclfchlejocmaa
open Go Go.Ev

/-! ### Small functions of chapter 7, by value -/
def plB (u v : Int) : Bool := inB u 0 400 && inB v 0 400
def leftI (a b c d u v : Int) : Int := Wr (Wr (Wr (c - a) * Wr (v - b)) - Wr (Wr (d - b) * Wr (u - a)))
def farI (a b c d : Int) : Int := Wr (bmax (Wr (a - c)) (Wr (c - a)) + bmax (Wr (b - d)) (Wr (d - b)))
def cmpI (a b : Int) : Int := cond (decide (a < b)) (-1) (cond (decide (a > b)) 1 0)
def behindB (a b c d : Int) : Bool := decide (b > d) || ((b == d) && decide (a > c))

theorem eq54 (u v : Int) : evF Try.prog Sa (ro 54) (fun _ _ => none) Try.f54 [.agg [.i .i64 u, .i .i64 v]] = cond (inB u 0 400) (some (.b (inB v 0 400))) (some (.b false)) := by kernel_rfl
theorem con54 (u v : Int) : Con Try.prog 54 [.agg [.i .i64 u, .i .i64 v]] (.b (plB u v)) :=
  con_plain Sa_ok Try.func54 rfl (by kernel_rfl) (by rw [eq54]; unfold plB; cases inB u 0 400 <;> rfl)
theorem eq56 (a b c d u v : Int) : evF Try.prog Sa (ro 56) (fun _ _ => none) Try.f56 [.agg [.i .i64 a, .i .i64 b, .i .i64 c, .i .i64 d], .agg [.i .i64 u, .i .i64 v]] = some (.i .i64 (leftI a b c d u v)) := by kernel_rfl
theorem con56 (a b c d u v : Int) : Con Try.prog 56 [.agg [.i .i64 a, .i .i64 b, .i .i64 c, .i .i64 d], .agg [.i .i64 u, .i .i64 v]] (.i .i64 (leftI a b c d u v)) :=
  con_plain Sa_ok Try.func56 rfl (by kernel_rfl) (eq56 ..)
theorem eq58 (a b c d : Int) : evF Try.prog Sa (ro 58) (fun _ _ => none) Try.f58 [.agg [.i .i64 a, .i .i64 b], .agg [.i .i64 c, .i .i64 d]] = some (.i .i64 (farI a b c d)) := by kernel_rfl
theorem con58 (a b c d : Int) : Con Try.prog 58 [.agg [.i .i64 a, .i .i64 b], .agg [.i .i64 c, .i .i64 d]] (.i .i64 (farI a b c d)) :=
  con_plain Sa_ok Try.func58 rfl (by kernel_rfl) (eq58 ..)
theorem eq60 (a b c d : Int) : evF Try.prog Sa (ro 60) (fun _ _ => none) Try.f60 [.agg [.i .i64 a, .i .i64 b], .agg [.i .i64 c, .i .i64 d]] = some (.i .i64 (farI a b c d)) := by kernel_rfl
theorem con60 (a b c d : Int) : Con Try.prog 60 [.agg [.i .i64 a, .i .i64 b], .agg [.i .i64 c, .i .i64 d]] (.i .i64 (farI a b c d)) :=
  con_plain Sa_ok Try.func60 rfl (by kernel_rfl) (eq60 ..)
theorem eq67 (a b c d u v : Int) : evF Try.prog Sa (ro 67) (fun _ _ => none) Try.f67 [.agg [.i .i64 a, .i .i64 b], .agg [.i .i64 c, .i .i64 d], .agg [.i .i64 u, .i .i64 v]] = some (.i .i64 (leftI a b c d u v)) := by kernel_rfl
theorem con67 (a b c d u v : Int) : Con Try.prog 67 [.agg [.i .i64 a, .i .i64 b], .agg [.i .i64 c, .i .i64 d], .agg [.i .i64 u, .i .i64 v]] (.i .i64 (leftI a b c d u v)) :=
  con_plain Sa_ok Try.func67 rfl (by kernel_rfl) (eq67 ..)
theorem eq45 (a b c d : Int) : evF Try.prog Sa (ro 45) (fun _ _ => none) Try.f45 [.agg [.i .i64 a, .i .i64 b], .agg [.i .i64 c, .i .i64 d]] = cond (decide (b > d)) (some (.b true)) (cond (b == d) (some (.b (decide (a > c)))) (some (.b false))) := by kernel_rfl
theorem con45 (a b c d : Int) : Con Try.prog 45 [.agg [.i .i64 a, .i .i64 b], .agg [.i .i64 c, .i .i64 d]] (.b (behindB a b c d)) :=
  con_plain Sa_ok Try.func45 rfl (by kernel_rfl) (by rw [eq45]; unfold behindB; cases decide (b > d) <;> cases (b == d) <;> rfl)
theorem eq76 (a : Int) : evF Try.prog Sa (ro 76) (fun _ _ => none) Try.f76 [.i .i64 a] = some (.b (a != a)) := by kernel_rfl
theorem con76 (a : Int) : Con Try.prog 76 [.i .i64 a] (.b false) :=
  con_plain Sa_ok Try.func76 rfl (by kernel_rfl) (by rw [eq76]; simp)

/-- The small functions, and these. -/
def Sb : Ev.Spec := fun f args => match f, args with
  | 39, [.i .i64 a, .i .i64 b, .i .i64 c] => some (true, .b (inB a b c))
  | 43, [.i .i64 a, .i .i64 b, .i .i64 c] => some (true, .b (inB a b c))
  | 40, [.agg [.i .i64 a, .i .i64 b], .i .i64 c] => some (true, .b (spB a b c))
  | 44, [.agg [.i .i64 a, .i .i64 b], .i .i64 c] => some (true, .b (spB a b c))
  | 54, [.agg [.i .i64 u, .i .i64 v]] => some (true, .b (plB u v))
  | 56, [.agg [.i .i64 a, .i .i64 b, .i .i64 c, .i .i64 d], .agg [.i .i64 u, .i .i64 v]] => some (true, .i .i64 (leftI a b c d u v))
  | 58, [.agg [.i .i64 a, .i .i64 b], .agg [.i .i64 c, .i .i64 d]] => some (true, .i .i64 (farI a b c d))
  | 60, [.agg [.i .i64 a, .i .i64 b], .agg [.i .i64 c, .i .i64 d]] => some (true, .i .i64 (farI a b c d))
  | 67, [.agg [.i .i64 a, .i .i64 b], .agg [.i .i64 c, .i .i64 d], .agg [.i .i64 u, .i .i64 v]] => some (true, .i .i64 (leftI a b c d u v))
  | 45, [.agg [.i .i64 a, .i .i64 b], .agg [.i .i64 c, .i .i64 d]] => some (true, .b (behindB a b c d))
  | 76, [.i .i64 _] => some (true, .b false)
  | _, _ => none
theorem Sb_ok : SpecOK Try.prog Sb := by
  intro f args pre v h hp
  unfold Sb at h
  split at h
  · cases h; exact con39 _ _ _
  · cases h; exact con43 _ _ _
  · cases h; exact con40 _ _ _
  · cases h; exact con44 _ _ _
  · cases h; exact con54 _ _
  · cases h; exact con56 _ _ _ _ _ _
  · cases h; exact con58 _ _ _ _
  · cases h; exact con60 _ _ _ _
  · cases h; exact con67 _ _ _ _ _ _
  · cases h; exact con45 _ _ _ _
  · cases h; exact con76 _
  · cases h

theorem eq62 (u v : Int) : evF Try.prog Sb (ro 62) (fun _ _ => none) Try.f62 [.agg [.i .i64 u, .i .i64 v]] = some (.b (!plB u v)) := by kernel_rfl
theorem con62 (u v : Int) : Con Try.prog 62 [.agg [.i .i64 u, .i .i64 v]] (.b (!plB u v)) := con_plain Sb_ok Try.func62 rfl (by kernel_rfl) (eq62 ..)
theorem eq66 (a b : Int) : evF Try.prog Sb (ro 66) (fun _ _ => none) Try.f66 [.i .i64 a, .i .i64 b] = cond (decide (a < b)) (some (.i .i64 (-1))) (cond (decide (a > b)) (some (.i .i64 1)) (some (.i .i64 0))) := by kernel_rfl
theorem con66 (a b : Int) : Con Try.prog 66 [.i .i64 a, .i .i64 b] (.i .i64 (cmpI a b)) :=
  con_plain Sb_ok Try.func66 rfl (by kernel_rfl) (by rw [eq66]; unfold cmpI; cases decide (a < b) <;> cases decide (a > b) <;> rfl)
end Go.Proofs.Yteclfchlejocmaa

set_option maxRecDepth 100000
namespace Go.Proofs.Yteclfchlejocmaa
open Go Go.Ev

/-- And these. -/
def Sc : Ev.Spec := fun f args => match f, args with
  | 62, [.agg [.i .i64 u, .i .i64 v]] => some (true, .b (!plB u v))
  | 66, [.i .i64 a, .i .i64 b] => some (true, .i .i64 (cmpI a b))
  | f, args => Sb f args
theorem Sc_ok : SpecOK Try.prog Sc := by
  intro f args pre v h hp
  unfold Sc at h
  split at h
  · cases h; exact con62 _ _
  · cases h; exact con66 _ _
  · exact Sb_ok _ _ _ _ h hp

/-! ### slices.IndexFunc over points, with checkOutline's function -/
def cU (e : List AV) : Int := toI (e.getD 0 .u)
def cV (e : List AV) : Int := toI (e.getD 1 .u)
noncomputable def lp74 : Code := match Try.f74.body with | some (.seq _ (.seq (.seq _ (.block _ (.loop c))) _)) => c | _ => .skip
noncomputable def s74 (es : List (List AV)) (n i : Int) : St := { t := [(0, .rs 32 es), (1, .fn 62 []), (4, .i .i64 0), (7, .i .i64 n), (8, .i .i64 i)], m := [], nx := 0, nt := 19 }
noncomputable def o74 (es : List (List AV)) (n i : Int) : St := { t := [(0, .rs 32 es), (1, .fn 62 []), (4, .i .i64 i), (7, .i .i64 n), (8, .i .i64 i)], m := [], nx := 0, nt := 19 }
theorem round74 (L : LSpec) (p : Pl) (es : List (List AV)) (n i : Int) : round Try.prog Sc (ro 74) L lp74 p [0,1,4,7,8] 0 (s74 es n i) =
    cond (decide (i < n)) (cond (inb i es.length) (cond (!plB (cU (es.getD i.toNat [])) (cV (es.getD i.toNat []))) (some (.ret, o74 es n i)) (some (.nrm, s74 es n (Wr (i + 1))))) none) (some (.ext 0, s74 es n i)) := by kernel_rfl

def ex74 (es : List (List AV)) (i : Nat) : Bool := !plB (cU (es.getD i [])) (cV (es.getD i []))
def okLen (es : List (List AV)) (n : Int) : Bool := decide (n = (es.length : Int)) && Nat.ble es.length 9223372036854775807
noncomputable def L74 : LSpec := fun p st => match p with
  | [false, true, false, true] => match norm Try.prog [0,1,4,7,8] 0 st with
    | some { t := [(_, .rs 32 es), (_, .fn 62 []), (_, .i .i64 (.ofNat 0)), (_, .i .i64 n), (_, .i .i64 (.ofNat 0))], m := _, nx := _, nt := 19 } =>
      some [(okLen es n && anyN (ex74 es) es.length, .ret, o74 es n (firstN (ex74 es) es.length : Nat)), (okLen es n, .ext 0, s74 es n (es.length : Nat))]
    | _ => none
  | _ => none
noncomputable def c74 : Code := match Try.f74.body with | some c => c | _ => .skip
theorem L74_ok (q : Pl) (c : Code) (hq : locate c74 q.reverse = some (.loop c)) (st : St) (outs : List (Bool × Ex × St)) (e : Ex) (s : St) (hl : L74 q st = some outs) (hch : Chosen outs e s) :
    ∃ keep nb, LB Try.prog Sc (ro 74) L74 c q keep nb st e s := by
  unfold L74 at hl
  split at hl
  · obtain rfl : c = lp74 := by
      have : locate c74 [false, true, false, true].reverse = some (.loop lp74) := by kernel_rfl
      rw [this] at hq
      cases hq; rfl
    split at hl
    · rename_i k0 es k1 k4 k7 n k8 mm xx hno
      cases hl
      refine ⟨[0,1,4,7,8], 0, .enter hno ?_⟩
      have hk := hno
      unfold norm at hk
      obtain ⟨_, hk⟩ := cond_some hk
      simp only [List.map_cons, List.map_nil, Option.some.injEq, St.mk.injEq, List.cons.injEq, Prod.mk.injEq, List.range_zero, and_true] at hk
      obtain ⟨⟨⟨rfl, _⟩, ⟨rfl, _⟩, ⟨rfl, _⟩, ⟨rfl, _⟩, rfl, _⟩, rfl, rfl, _⟩ := hk
      show LB Try.prog Sc (ro 74) L74 lp74 _ _ 0 (s74 es n 0) e s
      have main : okLen es n = true → ∀ e s, Chosen [(anyN (ex74 es) es.length, .ret, o74 es n (firstN (ex74 es) es.length : Nat)), (true, .ext 0, s74 es n (es.length : Nat))] e s → LB Try.prog Sc (ro 74) L74 lp74 [false, true, false, true] [0,1,4,7,8] 0 (s74 es n 0) e s := by
        intro hok
        obtain ⟨hn, hlen⟩ := Bool.and_eq_true_iff.1 hok
        have hn : n = (es.length : Int) := of_decide_eq_true hn
        have hlen : es.length ≤ 9223372036854775807 := Nat.le_of_ble_eq_true hlen
        have hr : ∀ i : Nat, i < es.length → round Try.prog Sc (ro 74) L74 lp74 [false, true, false, true] [0,1,4,7,8] 0 (s74 es n i) = cond (ex74 es i) (some (.ret, o74 es n i)) (some (.nrm, s74 es n (i + 1 : Nat))) := by
          intro i hi
          have h1 : decide ((i : Int) < n) = true := decide_eq_true (by omega)
          have h2 : inb (i : Int) es.length = true := by simp [inb, hi]
          have hw : Wr ((i : Int) + 1) = (i + 1 : Nat) := (wrap_id (x := (i : Int) + 1) (by omega) (by omega)).trans (by omega)
          rw [round74, h1, h2, hw]
          rfl
        refine LB_for (stI := fun i => s74 es n (i : Nat)) (ex := ex74 es) (out := fun i => (.ret, o74 es n (i : Nat))) (fin := (.ext 0, s74 es n (es.length : Nat))) (fun i hi h => ?_) (fun i hi h => ⟨?_, by simp⟩) ?_ (by simp)
        · rw [hr i hi, h]; rfl
        · rw [hr i hi, h]; rfl
        · have h1 : decide (((es.length : Nat) : Int) < n) = false := decide_eq_false (by omega)
          rw [round74, h1]; rfl
      cases hok : okLen es n with
      | false =>
        rw [hok] at hch
        rcases hch with ⟨h, _⟩ | ⟨_, ⟨h, _⟩ | ⟨_, h⟩⟩
        · cases h
        · cases h
        · exact h.elim
      | true =>
        rw [hok, Bool.true_and] at hch
        exact main hok e s hch
    · cases hl
  · cases hl
theorem eq74 (es : List (List AV)) : evF Try.prog Sc (ro 74) L74 Try.f74 [.rs 32 es, .fn 62 []] =
    cond (okLen es es.length && anyN (ex74 es) es.length) (some (.i .i64 (firstN (ex74 es) es.length : Nat))) (cond (okLen es es.length) (some (.i .i64 (-1))) none) := by kernel_rfl
theorem con74 (es : List (List AV)) (hlen : es.length ≤ 9223372036854775807) : Con Try.prog 74 [.rs 32 es, .fn 62 []] (.i .i64 (cond (anyN (ex74 es) es.length) (firstN (ex74 es) es.length : Nat) (-1))) := by
  refine con_of Sc_ok mixed Try.func74 (c := c74) rfl (names 74 _ Try.func74) (lok_of L74_ok c74 [] false (locate_nil _) (by kernel_rfl)) ?_
  have hok : okLen es es.length = true := by simp [okLen, Nat.ble_eq, hlen]
  rw [eq74, hok]
  cases anyN (ex74 es) es.length <;> rfl
end Go.Proofs.Yteclfchlejocmaa

set_option maxRecDepth 100000
namespace Go.Proofs.Yteclfchlejocmaa
open Go Go.Ev

/-- And IndexFunc. -/
noncomputable def Sd : Ev.Spec := fun f args => match f, args with
  | 74, [.rs 32 es, .fn 62 []] => some (Nat.ble es.length 9223372036854775807, .i .i64 (cond (anyN (ex74 es) es.length) (firstN (ex74 es) es.length : Nat) (-1)))
  | f, args => Sc f args
theorem Sd_ok : SpecOK Try.prog Sd := by
  intro f args pre v h hp
  unfold Sd at h
  split at h
  · cases h; exact con74 _ (Nat.le_of_ble_eq_true hp)
  · exact Sc_ok _ _ _ _ h hp
theorem eq61 (es : List (List AV)) : evF Try.prog Sd (ro 61) (fun _ _ => none) Try.f61 [.rs 32 es, .fn 62 []] =
    cond (Nat.ble es.length 9223372036854775807) (some (.b (decide ((cond (anyN (ex74 es) es.length) (firstN (ex74 es) es.length : Nat) (-1) : Int) ≥ 0)))) none := by kernel_rfl
theorem con61 (es : List (List AV)) (hlen : es.length ≤ 9223372036854775807) : Con Try.prog 61 [.rs 32 es, .fn 62 []] (.b (anyN (ex74 es) es.length)) := by
  refine con_plain Sd_ok Try.func61 rfl (by kernel_rfl) ?_
  rw [eq61, show Nat.ble es.length 9223372036854775807 = true from Nat.ble_eq_true_of_le hlen]
  cases anyN (ex74 es) es.length
  · rfl
  · have : decide ((cond true (firstN (ex74 es) es.length : Nat) (-1) : Int) ≥ 0) = true := decide_eq_true (by simp)
    rw [this]; rfl
end Go.Proofs.Yteclfchlejocmaa

set_option maxRecDepth 100000
namespace Go.Proofs.Yteclfchlejocmaa
open Go Go.Ev

/-! ### slices.Index over points -/
noncomputable def lp75 : Code := match Try.f75.body with | some (.seq _ (.seq (.seq _ (.block _ (.loop c))) _)) => c | _ => .skip
noncomputable def s75 (es : List (List AV)) (pu pv n i : Int) : St := { t := [(0, .rs 32 es), (3, .rp [.int .i64, .int .i64] [.i .i64 pu, .i .i64 pv] 0), (4, .i .i64 0), (7, .i .i64 n), (8, .i .i64 i)], m := [], nx := 0, nt := 19 }
noncomputable def o75 (es : List (List AV)) (pu pv n i : Int) : St := { t := [(0, .rs 32 es), (3, .rp [.int .i64, .int .i64] [.i .i64 pu, .i .i64 pv] 0), (4, .i .i64 i), (7, .i .i64 n), (8, .i .i64 i)], m := [], nx := 0, nt := 19 }
def ex75 (es : List (List AV)) (pu pv : Int) (i : Nat) : Bool := (pu == cU (es.getD i [])) && (pv == cV (es.getD i []))
theorem round75 (L : LSpec) (p : Pl) (es : List (List AV)) (pu pv n i : Int) : round Try.prog Sd (ro 75) L lp75 p [0,3,4,7,8] 0 (s75 es pu pv n i) =
    cond (decide (i < n)) (cond (inb i es.length) (cond ((pu == cU (es.getD i.toNat [])) && (pv == cV (es.getD i.toNat []))) (some (.ret, o75 es pu pv n i)) (some (.nrm, s75 es pu pv n (Wr (i + 1))))) none) (some (.ext 0, s75 es pu pv n i)) := by kernel_rfl
noncomputable def L75 : LSpec := fun p st => match p with
  | [false, true, false, true] => match norm Try.prog [0,3,4,7,8] 0 st with
    | some { t := [(_, .rs 32 es), (_, .rp [.int .i64, .int .i64] [.i .i64 pu, .i .i64 pv] 0), (_, .i .i64 (.ofNat 0)), (_, .i .i64 n), (_, .i .i64 (.ofNat 0))], m := _, nx := _, nt := 19 } =>
      some [(okLen es n && anyN (ex75 es pu pv) es.length, .ret, o75 es pu pv n (firstN (ex75 es pu pv) es.length : Nat)), (okLen es n, .ext 0, s75 es pu pv n (es.length : Nat))]
    | _ => none
  | _ => none
noncomputable def c75 : Code := match Try.f75.body with | some c => c | _ => .skip
theorem L75_ok (q : Pl) (c : Code) (hq : locate c75 q.reverse = some (.loop c)) (st : St) (outs : List (Bool × Ex × St)) (e : Ex) (s : St) (hl : L75 q st = some outs) (hch : Chosen outs e s) :
    ∃ keep nb, LB Try.prog Sd (ro 75) L75 c q keep nb st e s := by
  unfold L75 at hl
  split at hl
  · obtain rfl : c = lp75 := by
      have : locate c75 [false, true, false, true].reverse = some (.loop lp75) := by kernel_rfl
      rw [this] at hq
      cases hq; rfl
    split at hl
    · rename_i k0 es k1 pu pv k4 k7 n k8 mm xx hno
      cases hl
      refine ⟨[0,3,4,7,8], 0, .enter hno ?_⟩
      have hk := hno
      unfold norm at hk
      obtain ⟨_, hk⟩ := cond_some hk
      simp only [List.map_cons, List.map_nil, Option.some.injEq, St.mk.injEq, List.cons.injEq, Prod.mk.injEq, List.range_zero, and_true] at hk
      obtain ⟨⟨⟨rfl, _⟩, ⟨rfl, _⟩, ⟨rfl, _⟩, ⟨rfl, _⟩, rfl, _⟩, rfl, rfl, _⟩ := hk
      show LB Try.prog Sd (ro 75) L75 lp75 _ _ 0 (s75 es pu pv n 0) e s
      have main : okLen es n = true → ∀ e s, Chosen [(anyN (ex75 es pu pv) es.length, .ret, o75 es pu pv n (firstN (ex75 es pu pv) es.length : Nat)), (true, .ext 0, s75 es pu pv n (es.length : Nat))] e s → LB Try.prog Sd (ro 75) L75 lp75 [false, true, false, true] [0,3,4,7,8] 0 (s75 es pu pv n 0) e s := by
        intro hok
        obtain ⟨hn, hlen⟩ := Bool.and_eq_true_iff.1 hok
        have hn : n = (es.length : Int) := of_decide_eq_true hn
        have hlen : es.length ≤ 9223372036854775807 := Nat.le_of_ble_eq_true hlen
        have hr : ∀ i : Nat, i < es.length → round Try.prog Sd (ro 75) L75 lp75 [false, true, false, true] [0,3,4,7,8] 0 (s75 es pu pv n i) = cond (ex75 es pu pv i) (some (.ret, o75 es pu pv n i)) (some (.nrm, s75 es pu pv n (i + 1 : Nat))) := by
          intro i hi
          have h1 : decide ((i : Int) < n) = true := decide_eq_true (by omega)
          have h2 : inb (i : Int) es.length = true := by simp [inb, hi]
          have hw : Wr ((i : Int) + 1) = (i + 1 : Nat) := (wrap_id (x := (i : Int) + 1) (by omega) (by omega)).trans (by omega)
          rw [round75, h1, h2, hw]
          rfl
        refine LB_for (stI := fun i => s75 es pu pv n (i : Nat)) (ex := ex75 es pu pv) (out := fun i => (.ret, o75 es pu pv n (i : Nat))) (fin := (.ext 0, s75 es pu pv n (es.length : Nat))) (fun i hi h => ?_) (fun i hi h => ⟨?_, by simp⟩) ?_ (by simp)
        · rw [hr i hi, h]; rfl
        · rw [hr i hi, h]; rfl
        · have h1 : decide (((es.length : Nat) : Int) < n) = false := decide_eq_false (by omega)
          rw [round75, h1]; rfl
      cases hok : okLen es n with
      | false =>
        rw [hok] at hch
        rcases hch with ⟨h, _⟩ | ⟨_, ⟨h, _⟩ | ⟨_, h⟩⟩
        · cases h
        · cases h
        · exact h.elim
      | true =>
        rw [hok, Bool.true_and] at hch
        exact main hok e s hch
    · cases hl
  · cases hl
theorem eq75 (es : List (List AV)) (pu pv : Int) : evF Try.prog Sd (ro 75) L75 Try.f75 [.rs 32 es, .agg [.i .i64 pu, .i .i64 pv]] =
    cond (okLen es es.length && anyN (ex75 es pu pv) es.length) (some (.i .i64 (firstN (ex75 es pu pv) es.length : Nat))) (cond (okLen es es.length) (some (.i .i64 (-1))) none) := by kernel_rfl
theorem con75 (es : List (List AV)) (pu pv : Int) (hlen : es.length ≤ 9223372036854775807) : Con Try.prog 75 [.rs 32 es, .agg [.i .i64 pu, .i .i64 pv]] (.i .i64 (cond (anyN (ex75 es pu pv) es.length) (firstN (ex75 es pu pv) es.length : Nat) (-1))) := by
  refine con_of Sd_ok mixed Try.func75 (c := c75) rfl (names 75 _ Try.func75) (lok_of L75_ok c75 [] false (locate_nil _) (by kernel_rfl)) ?_
  have hok : okLen es es.length = true := by simp [okLen, Nat.ble_eq, hlen]
  rw [eq75, hok]
  cases anyN (ex75 es pu pv) es.length <;> rfl

noncomputable def Se : Ev.Spec := fun f args => match f, args with
  | 61, [.rs 32 es, .fn 62 []] => some (Nat.ble es.length 9223372036854775807, .b (anyN (ex74 es) es.length))
  | 75, [.rs 32 es, .agg [.i .i64 pu, .i .i64 pv]] => some (Nat.ble es.length 9223372036854775807, .i .i64 (cond (anyN (ex75 es pu pv) es.length) (firstN (ex75 es pu pv) es.length : Nat) (-1)))
  | f, args => Sd f args
theorem Se_ok : SpecOK Try.prog Se := by
  intro f args pre v h hp
  unfold Se at h
  split at h
  · cases h; exact con61 _ (Nat.le_of_ble_eq_true hp)
  · cases h; exact con75 _ _ _ (Nat.le_of_ble_eq_true hp)
  · exact Sd_ok _ _ _ _ h hp
theorem eq63 (es : List (List AV)) (pu pv : Int) : evF Try.prog Se (ro 63) (fun _ _ => none) Try.f63 [.rs 32 es, .agg [.i .i64 pu, .i .i64 pv]] =
    cond (Nat.ble es.length 9223372036854775807) (some (.b (decide ((cond (anyN (ex75 es pu pv) es.length) (firstN (ex75 es pu pv) es.length : Nat) (-1) : Int) ≥ 0)))) none := by kernel_rfl
theorem con63 (es : List (List AV)) (pu pv : Int) (hlen : es.length ≤ 9223372036854775807) : Con Try.prog 63 [.rs 32 es, .agg [.i .i64 pu, .i .i64 pv]] (.b (anyN (ex75 es pu pv) es.length)) := by
  refine con_plain Se_ok Try.func63 rfl (by kernel_rfl) ?_
  rw [eq63, show Nat.ble es.length 9223372036854775807 = true from Nat.ble_eq_true_of_le hlen]
  cases anyN (ex75 es pu pv) es.length
  · rfl
  · have : decide ((cond true (firstN (ex75 es pu pv) es.length : Nat) (-1) : Int) ≥ 0) = true := decide_eq_true (by simp)
    rw [this]; rfl
end Go.Proofs.Yteclfchlejocmaa

set_option maxRecDepth 100000
namespace Go.Proofs.Yteclfchlejocmaa
open Go Go.Ev

/-! ### cmp.Or over whole numbers -/
noncomputable def lp65 : Code := match Try.f65.body with | some (.seq _ (.seq _ (.seq (.seq _ (.block _ (.loop c))) _))) => c | _ => .skip
noncomputable def s65 (es : List (List AV)) (n i : Int) : St := { t := [(2, .i .i64 0), (3, .i .i64 0), (6, .rs 3 es), (7, .i .i64 n), (8, .i .i64 i)], m := [], nx := 0, nt := 18 }
noncomputable def o65 (es : List (List AV)) (n i : Int) : St := { t := [(2, .i .i64 (cU (es.getD i.toNat []))), (3, .i .i64 0), (6, .rs 3 es), (7, .i .i64 n), (8, .i .i64 i)], m := [], nx := 0, nt := 18 }
def ex65 (es : List (List AV)) (i : Nat) : Bool := cU (es.getD i []) != 0
theorem round65 (L : LSpec) (p : Pl) (es : List (List AV)) (n i : Int) : round Try.prog Sc (ro 65) L lp65 p [2,3,6,7,8] 0 (s65 es n i) =
    cond (decide (i < n)) (cond (inb i es.length) (cond (cU (es.getD i.toNat []) != 0) (some (.ret, o65 es n i)) (some (.nrm, s65 es n (Wr (i + 1))))) none) (some (.ext 0, s65 es n i)) := by kernel_rfl
noncomputable def L65 : LSpec := fun p st => match p with
  | [false, true, false, true, true] => match norm Try.prog [2,3,6,7,8] 0 st with
    | some { t := [(_, .i .i64 (.ofNat 0)), (_, .i .i64 (.ofNat 0)), (_, .rs 3 es), (_, .i .i64 n), (_, .i .i64 (.ofNat 0))], m := _, nx := _, nt := 18 } =>
      some [(okLen es n && anyN (ex65 es) es.length, .ret, o65 es n (firstN (ex65 es) es.length : Nat)), (okLen es n, .ext 0, s65 es n (es.length : Nat))]
    | _ => none
  | _ => none
noncomputable def c65 : Code := match Try.f65.body with | some c => c | _ => .skip
theorem L65_ok (q : Pl) (c : Code) (hq : locate c65 q.reverse = some (.loop c)) (st : St) (outs : List (Bool × Ex × St)) (e : Ex) (s : St) (hl : L65 q st = some outs) (hch : Chosen outs e s) :
    ∃ keep nb, LB Try.prog Sc (ro 65) L65 c q keep nb st e s := by
  unfold L65 at hl
  split at hl
  · obtain rfl : c = lp65 := by
      have : locate c65 [false, true, false, true, true].reverse = some (.loop lp65) := by kernel_rfl
      rw [this] at hq
      cases hq; rfl
    split at hl
    · rename_i k0 k1 k4 es k7 n k8 mm xx hno
      cases hl
      refine ⟨[2,3,6,7,8], 0, .enter hno ?_⟩
      have hk := hno
      unfold norm at hk
      obtain ⟨_, hk⟩ := cond_some hk
      simp only [List.map_cons, List.map_nil, Option.some.injEq, St.mk.injEq, List.cons.injEq, Prod.mk.injEq, List.range_zero, and_true] at hk
      obtain ⟨⟨⟨rfl, _⟩, ⟨rfl, _⟩, ⟨rfl, _⟩, ⟨rfl, _⟩, rfl, _⟩, rfl, rfl, _⟩ := hk
      show LB Try.prog Sc (ro 65) L65 lp65 _ _ 0 (s65 es n 0) e s
      have main : okLen es n = true → ∀ e s, Chosen [(anyN (ex65 es) es.length, .ret, o65 es n (firstN (ex65 es) es.length : Nat)), (true, .ext 0, s65 es n (es.length : Nat))] e s → LB Try.prog Sc (ro 65) L65 lp65 [false, true, false, true, true] [2,3,6,7,8] 0 (s65 es n 0) e s := by
        intro hok
        obtain ⟨hn, hlen⟩ := Bool.and_eq_true_iff.1 hok
        have hn : n = (es.length : Int) := of_decide_eq_true hn
        have hlen : es.length ≤ 9223372036854775807 := Nat.le_of_ble_eq_true hlen
        have hr : ∀ i : Nat, i < es.length → round Try.prog Sc (ro 65) L65 lp65 [false, true, false, true, true] [2,3,6,7,8] 0 (s65 es n i) = cond (ex65 es i) (some (.ret, o65 es n i)) (some (.nrm, s65 es n (i + 1 : Nat))) := by
          intro i hi
          have h1 : decide ((i : Int) < n) = true := decide_eq_true (by omega)
          have h2 : inb (i : Int) es.length = true := by simp [inb, hi]
          have hw : Wr ((i : Int) + 1) = (i + 1 : Nat) := (wrap_id (x := (i : Int) + 1) (by omega) (by omega)).trans (by omega)
          rw [round65, h1, h2, hw]
          rfl
        refine LB_for (stI := fun i => s65 es n (i : Nat)) (ex := ex65 es) (out := fun i => (.ret, o65 es n (i : Nat))) (fin := (.ext 0, s65 es n (es.length : Nat))) (fun i hi h => ?_) (fun i hi h => ⟨?_, by simp⟩) ?_ (by simp)
        · rw [hr i hi, h]; rfl
        · rw [hr i hi, h]; rfl
        · have h1 : decide (((es.length : Nat) : Int) < n) = false := decide_eq_false (by omega)
          rw [round65, h1]; rfl
      cases hok : okLen es n with
      | false =>
        rw [hok] at hch
        rcases hch with ⟨h, _⟩ | ⟨_, ⟨h, _⟩ | ⟨_, h⟩⟩
        · cases h
        · cases h
        · exact h.elim
      | true =>
        rw [hok, Bool.true_and] at hch
        exact main hok e s hch
    · cases hl
  · cases hl
theorem eq65 (es : List (List AV)) : evF Try.prog Sc (ro 65) L65 Try.f65 [.rs 3 es] =
    cond (okLen es es.length && anyN (ex65 es) es.length) (some (.i .i64 (cU (es.getD (firstN (ex65 es) es.length : Int).toNat [])))) (cond (okLen es es.length) (some (.i .i64 0)) none) := by kernel_rfl
theorem con65 (a b : Int) : Con Try.prog 65 [.rs 3 [[.i .i64 a], [.i .i64 b]]] (.i .i64 (cond (a != 0) a b)) := by
  refine con_of Sc_ok mixed Try.func65 (c := c65) rfl (names 65 _ Try.func65) (lok_of L65_ok c65 [] false (locate_nil _) (by kernel_rfl)) ?_
  rw [eq65]
  have hok : okLen [[AV.i .i64 a], [AV.i .i64 b]] ([[AV.i .i64 a], [AV.i .i64 b]].length : Nat) = true := rfl
  rw [hok]
  have e0 : ex65 [[AV.i .i64 a], [AV.i .i64 b]] 0 = (a != 0) := rfl
  have e1 : ex65 [[AV.i .i64 a], [AV.i .i64 b]] 1 = (b != 0) := rfl
  simp only [List.length_cons, List.length_nil, Nat.zero_add, anyN, firstN, e0, e1, Bool.or_false, Bool.true_and]
  by_cases ha : a = 0
  · by_cases hb : b = 0
    · subst ha; subst hb; rfl
    · have h1 : (a != 0) = false := by simp [ha]
      have h2 : (b != 0) = true := by simp [hb]
      rw [h1, h2]; rfl
  · have h1 : (a != 0) = true := by simp [ha]
    rw [h1]; rfl

noncomputable def Sf : Ev.Spec := fun f args => match f, args with
  | 65, [.rs 3 [[.i .i64 a], [.i .i64 b]]] => some (true, .i .i64 (cond (a != 0) a b))
  | 63, [.rs 32 es, .agg [.i .i64 pu, .i .i64 pv]] => some (Nat.ble es.length 9223372036854775807, .b (anyN (ex75 es pu pv) es.length))
  | f, args => Se f args
theorem Sf_ok : SpecOK Try.prog Sf := by
  intro f args pre v h hp
  unfold Sf at h
  split at h
  · cases h; exact con65 _ _
  · cases h; exact con63 _ _ _ (Nat.le_of_ble_eq_true hp)
  · exact Se_ok _ _ _ _ h hp
/-- By V, then by U. -/
def orderI (a b c d : Int) : Int := cond (cmpI b d != 0) (cmpI b d) (cmpI a c)
theorem eq41 (a b c d : Int) : evF Try.prog Sf (ro 41) (fun _ _ => none) Try.f41 [.agg [.i .i64 a, .i .i64 b], .agg [.i .i64 c, .i .i64 d]] = some (.i .i64 (orderI a b c d)) := by kernel_rfl
theorem con41 (a b c d : Int) : Con Try.prog 41 [.agg [.i .i64 a, .i .i64 b], .agg [.i .i64 c, .i .i64 d]] (.i .i64 (orderI a b c d)) := con_plain Sf_ok Try.func41 rfl (by kernel_rfl) (eq41 ..)
end Go.Proofs.Yteclfchlejocmaa

set_option maxRecDepth 100000
namespace Go.Proofs.Yteclfchlejocmaa
open Go Go.Ev

/-! ### wear.bounds -/
def c2 (e : List AV) : Int := toI (e.getD 2 .u)
def c3 (e : List AV) : Int := toI (e.getD 3 .u)
noncomputable def lp33 : Code := match Try.f33.body with | some (.seq _ (.seq _ (.seq (.seq _ (.block _ (.loop c))) _))) => c | _ => .skip
/-- What a mark says of a point. -/
def distI (st pu pv : Int) (e : List AV) : Int := Wr (st * farI pu pv (cU e) (cV e))
def loI (st pu pv lo : Int) (e : List AV) : Int := bmax lo (Wr (c2 e - distI st pu pv e))
def hiI (st pu pv hi : Int) (e : List AV) : Int := bmin hi (Wr (c3 e + distI st pu pv e))
noncomputable def s33 (os hs ms0 ms : List (List AV)) (st tl th pu pv lo hi n i : Int) : St :=
  { t := [(2, .rp [.sl 32, .sl 71, .int .i64, .int .i64, .int .i64, .sl 46] [.rs 32 os, .rs 71 hs, .i .i64 st, .i .i64 tl, .i .i64 th, .rs 46 ms0] 0), (3, .rp [.int .i64, .int .i64] [.i .i64 pu, .i .i64 pv] 0),
      (4, .p 2 0 0), (5, .p 5 0 0), (12, .rs 46 ms), (13, .i .i64 n), (14, .i .i64 i)],
    m := [(0, .dead), (1, .dead), (2, .row 27 [[.i .i64 0, .i .i64 0]]), (3, .dead), (4, .dead), (5, .row 27 [[.i .i64 lo, .i .i64 hi]])], nx := 6, nt := 44 }
theorem round33 (L : LSpec) (p : Pl) (os hs ms0 ms : List (List AV)) (st tl th pu pv lo hi n i : Int) : round Try.prog Sf (ro 33) L lp33 p [2,3,4,5,12,13,14] 6 (s33 os hs ms0 ms st tl th pu pv lo hi n i) =
    cond (decide (i < n)) (cond (inb i ms.length) (some (.nrm, s33 os hs ms0 ms st tl th pu pv (loI st pu pv lo (ms.getD i.toNat [])) (hiI st pu pv hi (ms.getD i.toNat [])) n (Wr (i + 1)))) none) (some (.ext 0, s33 os hs ms0 ms st tl th pu pv lo hi n i)) := by kernel_rfl

def accL (st pu pv lo : Int) (ms : List (List AV)) (i : Nat) : Int := (ms.take i).foldl (loI st pu pv) lo
def accH (st pu pv hi : Int) (ms : List (List AV)) (i : Nat) : Int := (ms.take i).foldl (hiI st pu pv) hi
theorem fold_succ {f : Int → List AV → Int} {x : Int} {ms : List (List AV)} {i : Nat} (hi : i < ms.length) : (ms.take (i + 1)).foldl f x = f ((ms.take i).foldl f x) (ms.getD i []) := by
  rw [List.take_add_one, List.foldl_append]
  simp [List.getD_eq_getElem?_getD, List.getElem?_eq_getElem hi]
noncomputable def L33 : LSpec := fun p st => match p with
  | [false, true, false, true, true] => match norm Try.prog [2,3,4,5,12,13,14] 6 st with
    | some { t := [(_, .rp [.sl 32, .sl 71, .int .i64, .int .i64, .int .i64, .sl 46] [.rs 32 os, .rs 71 hs, .i .i64 sp, .i .i64 tl, .i .i64 th, .rs 46 ms0] 0), (_, .rp [.int .i64, .int .i64] [.i .i64 pu, .i .i64 pv] 0), (_, .p 2 0 0), (_, .p 5 0 0), (_, .rs 46 ms), (_, .i .i64 n), (_, .i .i64 (.ofNat 0))],
             m := [(_, .dead), (_, .dead), (_, .row 27 [[.i .i64 (.ofNat 0), .i .i64 (.ofNat 0)]]), (_, .dead), (_, .dead), (_, .row 27 [[.i .i64 lo, .i .i64 hi]])], nx := _, nt := 44 } =>
      some [(okLen ms n, .ext 0, s33 os hs ms0 ms sp tl th pu pv (accL sp pu pv lo ms ms.length) (accH sp pu pv hi ms ms.length) n (ms.length : Nat))]
    | _ => none
  | _ => none
noncomputable def c33 : Code := match Try.f33.body with | some c => c | _ => .skip
theorem L33_ok (q : Pl) (c : Code) (hq : locate c33 q.reverse = some (.loop c)) (st : St) (outs : List (Bool × Ex × St)) (e : Ex) (s : St) (hl : L33 q st = some outs) (hch : Chosen outs e s) :
    ∃ keep nb, LB Try.prog Sf (ro 33) L33 c q keep nb st e s := by
  unfold L33 at hl
  split at hl
  · obtain rfl : c = lp33 := by
      have : locate c33 [false, true, false, true, true].reverse = some (.loop lp33) := by kernel_rfl
      rw [this] at hq
      cases hq; rfl
    split at hl
    · rename_i k0 os hs sp tl th ms0 k1 pu pv k4 k5 k6 ms k7 n k8 m0 m1 m2 m3 m4 m5 lo hi xx hno
      cases hl
      refine ⟨[2,3,4,5,12,13,14], 6, .enter hno ?_⟩
      have hk := hno
      unfold norm at hk
      obtain ⟨_, hk⟩ := cond_some hk
      simp only [List.map_cons, List.map_nil, Option.some.injEq, St.mk.injEq, List.cons.injEq, Prod.mk.injEq, List.range_succ, List.range_zero, List.nil_append, List.cons_append, and_true] at hk
      obtain ⟨⟨⟨rfl, _⟩, ⟨rfl, _⟩, ⟨rfl, _⟩, ⟨rfl, _⟩, ⟨rfl, _⟩, ⟨rfl, _⟩, rfl, _⟩, ⟨⟨rfl, _⟩, ⟨rfl, _⟩, ⟨rfl, _⟩, ⟨rfl, _⟩, ⟨rfl, _⟩, rfl, _⟩, rfl, _⟩ := hk
      show LB Try.prog Sf (ro 33) L33 lp33 _ _ 6 (s33 os hs ms0 ms sp tl th pu pv lo hi n 0) e s
      rcases hch with ⟨hok, rfl, rfl⟩ | ⟨_, h⟩
      · obtain ⟨hn, hlen⟩ := Bool.and_eq_true_iff.1 hok
        have hn : n = (ms.length : Int) := of_decide_eq_true hn
        have hlen : ms.length ≤ 9223372036854775807 := Nat.le_of_ble_eq_true hlen
        refine LB_for (stI := fun i => s33 os hs ms0 ms sp tl th pu pv (accL sp pu pv lo ms i) (accH sp pu pv hi ms i) n (i : Nat)) (ex := fun _ => false) (n := ms.length) (out := fun _ => (.ret, st)) (fin := (.ext 0, s33 os hs ms0 ms sp tl th pu pv (accL sp pu pv lo ms ms.length) (accH sp pu pv hi ms ms.length) n (ms.length : Nat)))
          (fun i hi h => ?_) (fun i hi h => by cases h) ?_ (by simp) _ _ (.inr ⟨?_, .inl ⟨rfl, rfl, rfl⟩⟩)
        · have h1 : decide ((i : Int) < n) = true := decide_eq_true (by omega)
          have h2 : inb (i : Int) ms.length = true := by simp [inb, hi]
          have hw : Wr ((i : Int) + 1) = (i + 1 : Nat) := (wrap_id (x := (i : Int) + 1) (by omega) (by omega)).trans (by omega)
          rw [round33, h1, h2, hw]
          simp only [accL, accH, fold_succ hi, cond_true, Int.toNat_natCast]
        · have h1 : decide (((ms.length : Nat) : Int) < n) = false := decide_eq_false (by omega)
          rw [round33, h1]; rfl
        · cases hany : anyN (fun _ => false) ms.length with
          | false => rfl
          | true =>
            obtain ⟨i, _, h⟩ := anyN_iff.1 hany
            cases h
      · exact h.elim
    · cases hl
  · cases hl
end Go.Proofs.Yteclfchlejocmaa

set_option maxRecDepth 100000
namespace Go.Proofs.Yteclfchlejocmaa
open Go Go.Ev

theorem eq33 (os hs ms : List (List AV)) (st tl th pu pv : Int) : evF Try.prog Sf (ro 33) L33 Try.f33 [.agg [.rs 32 os, .rs 71 hs, .i .i64 st, .i .i64 tl, .i .i64 th, .rs 46 ms], .agg [.i .i64 pu, .i .i64 pv]] =
    cond (okLen ms ms.length) (some (.agg [.i .i64 (accL st pu pv tl ms ms.length), .i .i64 (accH st pu pv th ms ms.length)])) none := by kernel_rfl
theorem con33 (os hs ms : List (List AV)) (st tl th pu pv : Int) (hlen : ms.length ≤ 9223372036854775807) : Con Try.prog 33 [.agg [.rs 32 os, .rs 71 hs, .i .i64 st, .i .i64 tl, .i .i64 th, .rs 46 ms], .agg [.i .i64 pu, .i .i64 pv]]
    (.agg [.i .i64 (ms.foldl (loI st pu pv) tl), .i .i64 (ms.foldl (hiI st pu pv) th)]) := by
  refine con_of Sf_ok mixed Try.func33 (c := c33) rfl (names 33 _ Try.func33) (lok_of L33_ok c33 [] false (locate_nil _) (by kernel_rfl)) ?_
  have hok : okLen ms ms.length = true := by simp [okLen, Nat.ble_eq, hlen]
  rw [eq33, hok]
  simp only [accL, accH, List.take_length, cond_true]
end Go.Proofs.Yteclfchlejocmaa

set_option maxRecDepth 100000
namespace Go.Proofs.Yteclfchlejocmaa
open Go Go.Ev

def badBox (a b c d : Int) : Bool := decide (a ≥ c) || decide (b ≥ d)
def inBox (u v a b c d : Int) : Bool := decide (a < u) && (decide (u < c) && (decide (b < v) && decide (v < d)))
def longB (a : Int) : Bool := decide (a < -9999999999) || decide (a > 9999999999)
theorem eq38 (a b c d : Int) : evF Try.prog Sf (ro 38) (fun _ _ => none) Try.f38 [.agg [.i .i64 a, .i .i64 b, .i .i64 c, .i .i64 d]] = cond (decide (a ≥ c)) (some (.b true)) (some (.b (decide (b ≥ d)))) := by kernel_rfl
theorem con38 (a b c d : Int) : Con Try.prog 38 [.agg [.i .i64 a, .i .i64 b, .i .i64 c, .i .i64 d]] (.b (badBox a b c d)) :=
  con_plain Sf_ok Try.func38 rfl (by kernel_rfl) (by rw [eq38]; unfold badBox; cases decide (a ≥ c) <;> rfl)
theorem eq57 (a b c d u v : Int) : evF Try.prog Sf (ro 57) (fun _ _ => none) Try.f57 [.agg [.i .i64 a, .i .i64 b, .i .i64 c, .i .i64 d], .rp [.int .i64, .int .i64] [.i .i64 u, .i .i64 v] 0] =
    cond (decide (a < u)) (cond (decide (u < c)) (cond (decide (b < v)) (some (.b (decide (v < d)))) (some (.b false))) (some (.b false))) (some (.b false)) := by kernel_rfl
theorem con57 (a b c d u v : Int) : Con Try.prog 57 [.agg [.i .i64 a, .i .i64 b, .i .i64 c, .i .i64 d], .rp [.int .i64, .int .i64] [.i .i64 u, .i .i64 v] 0] (.b (inBox u v a b c d)) :=
  con_plain Sf_ok Try.func57 rfl (by kernel_rfl) (by rw [eq57]; unfold inBox; cases decide (a < u) <;> cases decide (u < c) <;> cases decide (b < v) <;> rfl)
theorem eq30 (a : Int) : evF Try.prog Sf (ro 30) (fun _ _ => none) Try.f30 [.i .i64 a] = cond (decide (a < -9999999999)) (some (.b true)) (some (.b (decide (a > 9999999999)))) := by kernel_rfl
theorem con30 (a : Int) : Con Try.prog 30 [.i .i64 a] (.b (longB a)) :=
  con_plain Sf_ok Try.func30 rfl (by kernel_rfl) (by rw [eq30]; unfold longB; cases decide (a < -9999999999) <;> rfl)

noncomputable def Sg : Ev.Spec := fun f args => match f, args with
  | 38, [.agg [.i .i64 a, .i .i64 b, .i .i64 c, .i .i64 d]] => some (true, .b (badBox a b c d))
  | 57, [.agg [.i .i64 a, .i .i64 b, .i .i64 c, .i .i64 d], .rp [.int .i64, .int .i64] [.i .i64 u, .i .i64 v] 0] => some (true, .b (inBox u v a b c d))
  | 30, [.i .i64 a] => some (true, .b (longB a))
  | 41, [.agg [.i .i64 a, .i .i64 b], .agg [.i .i64 c, .i .i64 d]] => some (true, .i .i64 (orderI a b c d))
  | 33, [.agg [.rs 32 _, .rs 71 _, .i .i64 sp, .i .i64 tl, .i .i64 th, .rs 46 ms], .agg [.i .i64 pu, .i .i64 pv]] =>
    some (Nat.ble ms.length 9223372036854775807, .agg [.i .i64 (ms.foldl (loI sp pu pv) tl), .i .i64 (ms.foldl (hiI sp pu pv) th)])
  | f, args => Sf f args
theorem Sg_ok : SpecOK Try.prog Sg := by
  intro f args pre v h hp
  unfold Sg at h
  split at h
  · cases h; exact con38 _ _ _ _
  · cases h; exact con57 _ _ _ _ _ _
  · cases h; exact con30 _
  · cases h; exact con41 _ _ _ _
  · cases h; exact con33 _ _ _ _ _ _ _ _ (Nat.le_of_ble_eq_true hp)
  · exact Sf_ok _ _ _ _ h hp
end Go.Proofs.Yteclfchlejocmaa

set_option maxRecDepth 100000
namespace Go.Proofs.Yteclfchlejocmaa
open Go Go.Ev

/-! ### slices.IndexFunc over boxes, with Check's function -/
noncomputable def lp64a : Code := match Try.f64.body with | some (.seq _ (.seq (.seq _ (.block _ (.loop c))) _)) => c | _ => .skip
noncomputable def s64a (es : List (List AV)) (n i : Int) : St := { t := [(0, .rs 71 es), (1, .fn 38 []), (4, .i .i64 0), (7, .i .i64 n), (8, .i .i64 i)], m := [], nx := 0, nt := 19 }
noncomputable def o64a (es : List (List AV)) (n i : Int) : St := { t := [(0, .rs 71 es), (1, .fn 38 []), (4, .i .i64 i), (7, .i .i64 n), (8, .i .i64 i)], m := [], nx := 0, nt := 19 }
theorem round64a (L : LSpec) (p : Pl) (es : List (List AV)) (n i : Int) : round Try.prog Sg (ro 64) L lp64a p [0,1,4,7,8] 0 (s64a es n i) =
    cond (decide (i < n)) (cond (inb i es.length) (cond (badBox (cU (es.getD i.toNat [])) (cV (es.getD i.toNat [])) (c2 (es.getD i.toNat [])) (c3 (es.getD i.toNat []))) (some (.ret, o64a es n i)) (some (.nrm, s64a es n (Wr (i + 1))))) none) (some (.ext 0, s64a es n i)) := by kernel_rfl

def ex64a (es : List (List AV)) (i : Nat) : Bool := badBox (cU (es.getD i [])) (cV (es.getD i [])) (c2 (es.getD i [])) (c3 (es.getD i []))
noncomputable def L64a : LSpec := fun p st => match p with
  | [false, true, false, true] => match norm Try.prog [0,1,4,7,8] 0 st with
    | some { t := [(_, .rs 71 es), (_, .fn 38 []), (_, .i .i64 (.ofNat 0)), (_, .i .i64 n), (_, .i .i64 (.ofNat 0))], m := _, nx := _, nt := 19 } =>
      some [(okLen es n && anyN (ex64a es) es.length, .ret, o64a es n (firstN (ex64a es) es.length : Nat)), (okLen es n, .ext 0, s64a es n (es.length : Nat))]
    | _ => none
  | _ => none
noncomputable def c64a : Code := match Try.f64.body with | some c => c | _ => .skip
theorem L64a_ok (q : Pl) (c : Code) (hq : locate c64a q.reverse = some (.loop c)) (st : St) (outs : List (Bool × Ex × St)) (e : Ex) (s : St) (hl : L64a q st = some outs) (hch : Chosen outs e s) :
    ∃ keep nb, LB Try.prog Sg (ro 64) L64a c q keep nb st e s := by
  unfold L64a at hl
  split at hl
  · obtain rfl : c = lp64a := by
      have : locate c64a [false, true, false, true].reverse = some (.loop lp64a) := by kernel_rfl
      rw [this] at hq
      cases hq; rfl
    split at hl
    · rename_i k0 es k1 k4 k7 n k8 mm xx hno
      cases hl
      refine ⟨[0,1,4,7,8], 0, .enter hno ?_⟩
      have hk := hno
      unfold norm at hk
      obtain ⟨_, hk⟩ := cond_some hk
      simp only [List.map_cons, List.map_nil, Option.some.injEq, St.mk.injEq, List.cons.injEq, Prod.mk.injEq, List.range_zero, and_true] at hk
      obtain ⟨⟨⟨rfl, _⟩, ⟨rfl, _⟩, ⟨rfl, _⟩, ⟨rfl, _⟩, rfl, _⟩, rfl, rfl, _⟩ := hk
      show LB Try.prog Sg (ro 64) L64a lp64a _ _ 0 (s64a es n 0) e s
      have main : okLen es n = true → ∀ e s, Chosen [(anyN (ex64a es) es.length, .ret, o64a es n (firstN (ex64a es) es.length : Nat)), (true, .ext 0, s64a es n (es.length : Nat))] e s → LB Try.prog Sg (ro 64) L64a lp64a [false, true, false, true] [0,1,4,7,8] 0 (s64a es n 0) e s := by
        intro hok
        obtain ⟨hn, hlen⟩ := Bool.and_eq_true_iff.1 hok
        have hn : n = (es.length : Int) := of_decide_eq_true hn
        have hlen : es.length ≤ 9223372036854775807 := Nat.le_of_ble_eq_true hlen
        have hr : ∀ i : Nat, i < es.length → round Try.prog Sg (ro 64) L64a lp64a [false, true, false, true] [0,1,4,7,8] 0 (s64a es n i) = cond (ex64a es i) (some (.ret, o64a es n i)) (some (.nrm, s64a es n (i + 1 : Nat))) := by
          intro i hi
          have h1 : decide ((i : Int) < n) = true := decide_eq_true (by omega)
          have h2 : inb (i : Int) es.length = true := by simp [inb, hi]
          have hw : Wr ((i : Int) + 1) = (i + 1 : Nat) := (wrap_id (x := (i : Int) + 1) (by omega) (by omega)).trans (by omega)
          rw [round64a, h1, h2, hw]
          rfl
        refine LB_for (stI := fun i => s64a es n (i : Nat)) (ex := ex64a es) (out := fun i => (.ret, o64a es n (i : Nat))) (fin := (.ext 0, s64a es n (es.length : Nat))) (fun i hi h => ?_) (fun i hi h => ⟨?_, by simp⟩) ?_ (by simp)
        · rw [hr i hi, h]; rfl
        · rw [hr i hi, h]; rfl
        · have h1 : decide (((es.length : Nat) : Int) < n) = false := decide_eq_false (by omega)
          rw [round64a, h1]; rfl
      cases hok : okLen es n with
      | false =>
        rw [hok] at hch
        rcases hch with ⟨h, _⟩ | ⟨_, ⟨h, _⟩ | ⟨_, h⟩⟩
        · cases h
        · cases h
        · exact h.elim
      | true =>
        rw [hok, Bool.true_and] at hch
        exact main hok e s hch
    · cases hl
  · cases hl
theorem eq64a (es : List (List AV)) : evF Try.prog Sg (ro 64) L64a Try.f64 [.rs 71 es, .fn 38 []] =
    cond (okLen es es.length && anyN (ex64a es) es.length) (some (.i .i64 (firstN (ex64a es) es.length : Nat))) (cond (okLen es es.length) (some (.i .i64 (-1))) none) := by kernel_rfl
theorem con64a (es : List (List AV)) (hlen : es.length ≤ 9223372036854775807) : Con Try.prog 64 [.rs 71 es, .fn 38 []] (.i .i64 (cond (anyN (ex64a es) es.length) (firstN (ex64a es) es.length : Nat) (-1))) := by
  refine con_of Sg_ok mixed Try.func64 (c := c64a) rfl (names 64 _ Try.func64) (lok_of L64a_ok c64a [] false (locate_nil _) (by kernel_rfl)) ?_
  have hok : okLen es es.length = true := by simp [okLen, Nat.ble_eq, hlen]
  rw [eq64a, hok]
  cases anyN (ex64a es) es.length <;> rfl

/-! ### .. with has's function -/
noncomputable def lp64b : Code := match Try.f64.body with | some (.seq _ (.seq (.seq _ (.block _ (.loop c))) _)) => c | _ => .skip
noncomputable def s64b (es : List (List AV)) (pu pv : Int) (n i : Int) : St := { t := [(0, .rs 71 es), (1, .fn 57 [.rp [.int .i64, .int .i64] [.i .i64 pu, .i .i64 pv] 0]), (4, .i .i64 0), (7, .i .i64 n), (8, .i .i64 i)], m := [], nx := 0, nt := 19 }
noncomputable def o64b (es : List (List AV)) (pu pv : Int) (n i : Int) : St := { t := [(0, .rs 71 es), (1, .fn 57 [.rp [.int .i64, .int .i64] [.i .i64 pu, .i .i64 pv] 0]), (4, .i .i64 i), (7, .i .i64 n), (8, .i .i64 i)], m := [], nx := 0, nt := 19 }
theorem round64b (L : LSpec) (p : Pl) (es : List (List AV)) (pu pv : Int) (n i : Int) : round Try.prog Sg (ro 64) L lp64b p [0,1,4,7,8] 0 (s64b es pu pv n i) =
    cond (decide (i < n)) (cond (inb i es.length) (cond (inBox pu pv (cU (es.getD i.toNat [])) (cV (es.getD i.toNat [])) (c2 (es.getD i.toNat [])) (c3 (es.getD i.toNat []))) (some (.ret, o64b es pu pv n i)) (some (.nrm, s64b es pu pv n (Wr (i + 1))))) none) (some (.ext 0, s64b es pu pv n i)) := by kernel_rfl

def ex64b (es : List (List AV)) (pu pv : Int) (i : Nat) : Bool := inBox pu pv (cU (es.getD i [])) (cV (es.getD i [])) (c2 (es.getD i [])) (c3 (es.getD i []))
noncomputable def L64b : LSpec := fun p st => match p with
  | [false, true, false, true] => match norm Try.prog [0,1,4,7,8] 0 st with
    | some { t := [(_, .rs 71 es), (_, .fn 57 [.rp [.int .i64, .int .i64] [.i .i64 pu, .i .i64 pv] 0]), (_, .i .i64 (.ofNat 0)), (_, .i .i64 n), (_, .i .i64 (.ofNat 0))], m := _, nx := _, nt := 19 } =>
      some [(okLen es n && anyN (ex64b es pu pv) es.length, .ret, o64b es pu pv n (firstN (ex64b es pu pv) es.length : Nat)), (okLen es n, .ext 0, s64b es pu pv n (es.length : Nat))]
    | _ => none
  | _ => none
noncomputable def c64b : Code := match Try.f64.body with | some c => c | _ => .skip
theorem L64b_ok (q : Pl) (c : Code) (hq : locate c64b q.reverse = some (.loop c)) (st : St) (outs : List (Bool × Ex × St)) (e : Ex) (s : St) (hl : L64b q st = some outs) (hch : Chosen outs e s) :
    ∃ keep nb, LB Try.prog Sg (ro 64) L64b c q keep nb st e s := by
  unfold L64b at hl
  split at hl
  · obtain rfl : c = lp64b := by
      have : locate c64b [false, true, false, true].reverse = some (.loop lp64b) := by kernel_rfl
      rw [this] at hq
      cases hq; rfl
    split at hl
    · rename_i k0 es k1 pu pv k4 k7 n k8 mm xx hno
      cases hl
      refine ⟨[0,1,4,7,8], 0, .enter hno ?_⟩
      have hk := hno
      unfold norm at hk
      obtain ⟨_, hk⟩ := cond_some hk
      simp only [List.map_cons, List.map_nil, Option.some.injEq, St.mk.injEq, List.cons.injEq, Prod.mk.injEq, List.range_zero, and_true] at hk
      obtain ⟨⟨⟨rfl, _⟩, ⟨rfl, _⟩, ⟨rfl, _⟩, ⟨rfl, _⟩, rfl, _⟩, rfl, rfl, _⟩ := hk
      show LB Try.prog Sg (ro 64) L64b lp64b _ _ 0 (s64b es pu pv n 0) e s
      have main : okLen es n = true → ∀ e s, Chosen [(anyN (ex64b es pu pv) es.length, .ret, o64b es pu pv n (firstN (ex64b es pu pv) es.length : Nat)), (true, .ext 0, s64b es pu pv n (es.length : Nat))] e s → LB Try.prog Sg (ro 64) L64b lp64b [false, true, false, true] [0,1,4,7,8] 0 (s64b es pu pv n 0) e s := by
        intro hok
        obtain ⟨hn, hlen⟩ := Bool.and_eq_true_iff.1 hok
        have hn : n = (es.length : Int) := of_decide_eq_true hn
        have hlen : es.length ≤ 9223372036854775807 := Nat.le_of_ble_eq_true hlen
        have hr : ∀ i : Nat, i < es.length → round Try.prog Sg (ro 64) L64b lp64b [false, true, false, true] [0,1,4,7,8] 0 (s64b es pu pv n i) = cond (ex64b es pu pv i) (some (.ret, o64b es pu pv n i)) (some (.nrm, s64b es pu pv n (i + 1 : Nat))) := by
          intro i hi
          have h1 : decide ((i : Int) < n) = true := decide_eq_true (by omega)
          have h2 : inb (i : Int) es.length = true := by simp [inb, hi]
          have hw : Wr ((i : Int) + 1) = (i + 1 : Nat) := (wrap_id (x := (i : Int) + 1) (by omega) (by omega)).trans (by omega)
          rw [round64b, h1, h2, hw]
          rfl
        refine LB_for (stI := fun i => s64b es pu pv n (i : Nat)) (ex := ex64b es pu pv) (out := fun i => (.ret, o64b es pu pv n (i : Nat))) (fin := (.ext 0, s64b es pu pv n (es.length : Nat))) (fun i hi h => ?_) (fun i hi h => ⟨?_, by simp⟩) ?_ (by simp)
        · rw [hr i hi, h]; rfl
        · rw [hr i hi, h]; rfl
        · have h1 : decide (((es.length : Nat) : Int) < n) = false := decide_eq_false (by omega)
          rw [round64b, h1]; rfl
      cases hok : okLen es n with
      | false =>
        rw [hok] at hch
        rcases hch with ⟨h, _⟩ | ⟨_, ⟨h, _⟩ | ⟨_, h⟩⟩
        · cases h
        · cases h
        · exact h.elim
      | true =>
        rw [hok, Bool.true_and] at hch
        exact main hok e s hch
    · cases hl
  · cases hl
theorem eq64b (es : List (List AV)) (pu pv : Int) : evF Try.prog Sg (ro 64) L64b Try.f64 [.rs 71 es, .fn 57 [.rp [.int .i64, .int .i64] [.i .i64 pu, .i .i64 pv] 0]] =
    cond (okLen es es.length && anyN (ex64b es pu pv) es.length) (some (.i .i64 (firstN (ex64b es pu pv) es.length : Nat))) (cond (okLen es es.length) (some (.i .i64 (-1))) none) := by kernel_rfl
theorem con64b (es : List (List AV)) (pu pv : Int) (hlen : es.length ≤ 9223372036854775807) : Con Try.prog 64 [.rs 71 es, .fn 57 [.rp [.int .i64, .int .i64] [.i .i64 pu, .i .i64 pv] 0]] (.i .i64 (cond (anyN (ex64b es pu pv) es.length) (firstN (ex64b es pu pv) es.length : Nat) (-1))) := by
  refine con_of Sg_ok mixed Try.func64 (c := c64b) rfl (names 64 _ Try.func64) (lok_of L64b_ok c64b [] false (locate_nil _) (by kernel_rfl)) ?_
  have hok : okLen es es.length = true := by simp [okLen, Nat.ble_eq, hlen]
  rw [eq64b, hok]
  cases anyN (ex64b es pu pv) es.length <;> rfl
end Go.Proofs.Yteclfchlejocmaa

set_option maxRecDepth 100000
namespace Go.Proofs.Yteclfchlejocmaa
open Go Go.Ev

noncomputable def Sh : Ev.Spec := fun f args => match f, args with
  | 64, [.rs 71 es, .fn 38 []] => some (Nat.ble es.length 9223372036854775807, .i .i64 (cond (anyN (ex64a es) es.length) (firstN (ex64a es) es.length : Nat) (-1)))
  | 64, [.rs 71 es, .fn 57 [.rp [.int .i64, .int .i64] [.i .i64 pu, .i .i64 pv] 0]] => some (Nat.ble es.length 9223372036854775807, .i .i64 (cond (anyN (ex64b es pu pv) es.length) (firstN (ex64b es pu pv) es.length : Nat) (-1)))
  | f, args => Sg f args
theorem Sh_ok : SpecOK Try.prog Sh := by
  intro f args pre v h hp
  unfold Sh at h
  split at h
  · cases h; exact con64a _ (Nat.le_of_ble_eq_true hp)
  · cases h; exact con64b _ _ _ (Nat.le_of_ble_eq_true hp)
  · exact Sg_ok _ _ _ _ h hp
theorem ge_any (ex : Nat → Bool) (n : Nat) : decide ((cond (anyN ex n) (firstN ex n : Nat) (-1) : Int) ≥ 0) = anyN ex n := by
  cases anyN ex n
  · rfl
  · exact decide_eq_true (by simp)
theorem eq37a (es : List (List AV)) : evF Try.prog Sh (ro 37) (fun _ _ => none) Try.f37 [.rs 71 es, .fn 38 []] =
    cond (Nat.ble es.length 9223372036854775807) (some (.b (decide ((cond (anyN (ex64a es) es.length) (firstN (ex64a es) es.length : Nat) (-1) : Int) ≥ 0)))) none := by kernel_rfl
theorem con37a (es : List (List AV)) (hlen : es.length ≤ 9223372036854775807) : Con Try.prog 37 [.rs 71 es, .fn 38 []] (.b (anyN (ex64a es) es.length)) :=
  con_plain Sh_ok Try.func37 rfl (by kernel_rfl) (by rw [eq37a, show Nat.ble es.length 9223372036854775807 = true from Nat.ble_eq_true_of_le hlen, ge_any]; rfl)
theorem eq37b (es : List (List AV)) (pu pv : Int) : evF Try.prog Sh (ro 37) (fun _ _ => none) Try.f37 [.rs 71 es, .fn 57 [.rp [.int .i64, .int .i64] [.i .i64 pu, .i .i64 pv] 0]] =
    cond (Nat.ble es.length 9223372036854775807) (some (.b (decide ((cond (anyN (ex64b es pu pv) es.length) (firstN (ex64b es pu pv) es.length : Nat) (-1) : Int) ≥ 0)))) none := by kernel_rfl
theorem con37b (es : List (List AV)) (pu pv : Int) (hlen : es.length ≤ 9223372036854775807) : Con Try.prog 37 [.rs 71 es, .fn 57 [.rp [.int .i64, .int .i64] [.i .i64 pu, .i .i64 pv] 0]] (.b (anyN (ex64b es pu pv) es.length)) :=
  con_plain Sh_ok Try.func37 rfl (by kernel_rfl) (by rw [eq37b, show Nat.ble es.length 9223372036854775807 = true from Nat.ble_eq_true_of_le hlen, ge_any]; rfl)
end Go.Proofs.Yteclfchlejocmaa

set_option maxRecDepth 100000
namespace Go.Proofs.Yteclfchlejocmaa
open Go Go.Ev

theorem eq55 (es : List (List AV)) : evF Try.prog Sh (ro 55) (fun _ _ => none) Try.f55 [.rs 32 es] = some (.fn 73 [.rp [.sl 32] [.rs 32 es] 0]) := by kernel_rfl
theorem con55 (es : List (List AV)) : Con Try.prog 55 [.rs 32 es] (.fn 73 [.rp [.sl 32] [.rs 32 es] 0]) := con_plain Sh_ok Try.func55 rfl (by kernel_rfl) (eq55 es)

noncomputable def Si : Ev.Spec := fun f args => match f, args with
  | 55, [.rs 32 es] => some (true, .fn 73 [.rp [.sl 32] [.rs 32 es] 0])
  | 37, [.rs 71 es, .fn 38 []] => some (Nat.ble es.length 9223372036854775807, .b (anyN (ex64a es) es.length))
  | 37, [.rs 71 es, .fn 57 [.rp [.int .i64, .int .i64] [.i .i64 pu, .i .i64 pv] 0]] => some (Nat.ble es.length 9223372036854775807, .b (anyN (ex64b es pu pv) es.length))
  | f, args => Sh f args
theorem Si_ok : SpecOK Try.prog Si := by
  intro f args pre v h hp
  unfold Si at h
  split at h
  · cases h; exact con55 _
  · cases h; exact con37a _ (Nat.le_of_ble_eq_true hp)
  · cases h; exact con37b _ _ _ (Nat.le_of_ble_eq_true hp)
  · exact Sh_ok _ _ _ _ h hp
end Go.Proofs.Yteclfchlejocmaa

set_option maxRecDepth 100000
set_option linter.unusedVariables false
namespace Go.Proofs.Yteclfchlejocmaa
open Go Go.Ev

/-! ### wear.has -/
noncomputable def rf32 : Code := match Try.f32.body with | some (.seq _ (.seq _ (.seq (.seq _ (.block _ c)) _))) => c | _ => .skip
noncomputable def as32 : Code := match rf32 with | .rangeFunc _ _ a _ => a | _ => .skip
noncomputable def bd32 : Code := match rf32 with | .rangeFunc _ _ _ b => b | _ => .skip
noncomputable def s32 (os hs : List (List AV)) (pu pv : Int) (r : Bool) : St :=
  { t := [(2, .rp [.sl 32, .sl 71] [.rs 32 os, .rs 71 hs] 0), (3, .rp [.int .i64, .int .i64] [.i .i64 pu, .i .i64 pv] 0), (4, .p 2 0 0)], m := [(0, .dead), (1, .dead), (2, .row 4 [[.b r]]), (3, .dead), (4, .dead), (5, .dead), (6, .dead), (7, .dead), (8, .dead)], nx := 9, nt := 22 }
theorem round32 (L : LSpec) (p : Pl) (os hs : List (List AV)) (pu pv a b c d : Int) (r : Bool) : roundF Try.prog Si (ro 32) L [12] as32 bd32 p 9 (s32 os hs pu pv r) [.agg [.i .i64 a, .i .i64 b, .i .i64 c, .i .i64 d]] =
    cond (decide (leftI a b c d pu pv < 0)) (some (.ret, s32 os hs pu pv false)) (some (.nrm, s32 os hs pu pv r)) := by kernel_rfl

/-- How far a point lies to the left of a side. -/
def leftS (es : List (List AV)) (i : Nat) (u v : Int) : Int :=
  leftI (cU (es.getD i [])) (cV (es.getD i [])) (cU (es.getD ((i + 1) % es.length) [])) (cV (es.getD ((i + 1) % es.length) [])) u v
def negS (es : List (List AV)) (pu pv : Int) (i : Nat) : Bool := decide (leftS es i pu pv < 0)
def okS (es : List (List AV)) : Bool := Nat.ble es.length 9223372036854775807 && plainL (sidesL es)
theorem sides_len (es : List (List AV)) : ((sidesL es).map fun x => [x]).length = es.length := by simp [sidesL]
theorem sides_at {es : List (List AV)} {i : Nat} {x : List AV} (h : ((sidesL es).map fun x => [x])[i]? = some x) : i < es.length ∧ x = [side es i ((i + 1) % es.length)] := by
  obtain ⟨hi, he⟩ := List.getElem?_eq_some_iff.1 h
  rw [sides_len] at hi
  refine ⟨hi, ?_⟩
  rw [← he]
  simp [sidesL]
theorem sides_one {es : List (List AV)} {x : List AV} (h : x ∈ (sidesL es).map fun x => [x]) : x.length = 1 := by
  obtain ⟨y, _, rfl⟩ := List.mem_map.1 h
  rfl

noncomputable def L32 : LSpec := fun p st => match p with
  | [false, true, false, true, true] => match normE Try.prog [2,3,4] 9 st, gt st.t 11 with
    | some ([.rp [.sl 32, .sl 71] [.rs 32 os, .rs 71 hs] 0, .rp [.int .i64, .int .i64] [.i .i64 pu, .i .i64 pv] 0, .p 2 0 0], [.dead, .dead, .row 4 [[.b r]], .dead, .dead, .dead, .dead, .dead, .dead], 22), .fn 73 [.rp [.sl 32] [.rs 32 es] 0] =>
      some [(okS es && anyN (negS es pu pv) es.length, .ret, s32 os hs pu pv false), (okS es, .nrm, s32 os hs pu pv r)]
    | _, _ => none
  | _ => none
noncomputable def c32 : Code := match Try.f32.body with | some c => c | _ => .skip
theorem L32_ok (q : Pl) (g : Operand) (ps : Array Nat) (a b : Code) (hq : locate c32 q.reverse = some (.rangeFunc g ps a b)) (lo : Nat) (st : St) (outs : List (Bool × Ex × St)) (e : Ex) (s : St) (hlo : lo ≤ st.nx) (hl : L32 q st = some outs) (hch : Chosen outs e s) :
    ∃ keep nb, lo ≤ nb ∧ RB Try.prog Si (ro 32) L32 g ps.toList a b q keep nb st e s := by
  unfold L32 at hl
  split at hl
  · have : locate c32 [false, true, false, true, true].reverse = some (.rangeFunc (.tmp 11) #[12] as32 bd32) := by kernel_rfl
    rw [this] at hq
    cases hq
    split at hl
    · rename_i os hs pu pv r es hno hg
      cases hl
      obtain ⟨hnx, hno⟩ := normE_norm hno
      refine RB_forG (stI := fun _ => s32 os hs pu pv r) (ex := negS es pu pv) (out := fun _ => (.ret, s32 os hs pu pv false)) (gf := 73) (caps := [.rp [.sl 32] [.rs 32 es] 0]) (gd := okS es) hno (hnx ▸ hlo) hg (by kernel_rfl) (fun q hq => by simp at hq; subst hq; exact (by decide : 12 < 22)) (sides_len es) hch (fun _ => by simp) (fun x hx => sides_one hx) (fun hok => ?_)
      obtain ⟨h1, h2⟩ := Bool.and_eq_true_iff.1 hok
      refine ⟨sides_con es (Nat.le_of_ble_eq_true h1) h2, fun i x hx => ?_⟩
      obtain ⟨hi, rfl⟩ := sides_at hx
      exact round32 ..
    · cases hl
  · cases hl
theorem L32_no (q : Pl) (c : Code) (hq : locate c32 q.reverse = some (.loop c)) (lo : Nat) (st : St) (outs : List (Bool × Ex × St)) (e : Ex) (s : St) (hlo : lo ≤ st.nx) (hl : L32 q st = some outs) (hch : Chosen outs e s) :
    ∃ keep nb, lo ≤ nb ∧ LB Try.prog Si (ro 32) L32 c q keep nb st e s := by
  unfold L32 at hl
  split at hl
  · have : locate c32 [false, true, false, true, true].reverse = some (.rangeFunc (.tmp 11) #[12] as32 bd32) := by kernel_rfl
    rw [this] at hq
    cases hq
  · cases hl
/-- Is a point one of an area? -/
def hasB (os hs : List (List AV)) (pu pv : Int) : Bool := plB pu pv && (!anyN (negS os pu pv) os.length && !anyN (ex64b hs pu pv) hs.length)
theorem eq32 (os hs : List (List AV)) (pu pv : Int) : evF Try.prog Si (ro 32) L32 Try.f32 [.agg [.rs 32 os, .rs 71 hs], .agg [.i .i64 pu, .i .i64 pv]] =
    cond (!plB pu pv) (some (.b false)) (cond (okS os && anyN (negS os pu pv) os.length) (some (.b false)) (cond (okS os) (cond (Nat.ble hs.length 9223372036854775807) (some (.b (!anyN (ex64b hs pu pv) hs.length))) none) none)) := by kernel_rfl
theorem con32 (os hs : List (List AV)) (pu pv : Int) (ho : okS os = true) (hh : hs.length ≤ 9223372036854775807) : Con Try.prog 32 [.agg [.rs 32 os, .rs 71 hs], .agg [.i .i64 pu, .i .i64 pv]] (.b (hasB os hs pu pv)) := by
  refine con_of Si_ok mixed Try.func32 (c := c32) rfl (names 32 _ Try.func32) (lok_of2 L32_no L32_ok c32 [] 0 false (locate_nil _) (by kernel_rfl)) ?_
  rw [eq32, ho, show Nat.ble hs.length 9223372036854775807 = true by simpa [Nat.ble_eq] using hh]
  unfold hasB
  cases plB pu pv <;> cases anyN (negS os pu pv) os.length <;> rfl
end Go.Proofs.Yteclfchlejocmaa
