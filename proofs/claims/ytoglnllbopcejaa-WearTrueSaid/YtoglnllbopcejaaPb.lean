/-
  The evaluator, its soundness, and the functions that several laws reach: what they compute, for all arguments; no conditions.
-/
import Derived.Test.YtoglnllbopcejaaPa
import Derived.WideKeyRuns
import Derived.Carry
import Derived.OrdersIn
set_option linter.unusedVariables false
set_option linter.unusedVariables false
set_option linter.unusedSimpArgs false
namespace Go.Ev
open Go Go.RowKit

variable {P : Program} {w0 : Base} {X D : Nat → Nat → Prop} {R : Nat → Option (Nat × Nat × Nat)} {st : St} {a : Act} {w : World}

mutual
theorem sameV_eq : ∀ {x y : AV}, plain x = true → plain y = true → (sameV x y = true ↔ x = y)
  | .b x, y, h1, h2 => by cases y <;> simp [sameV, plain] at *
  | .i k x, y, h1, h2 => by
    cases y <;> simp [sameV, plain] at *
  | .s x, y, h1, h2 => by
    cases y <;> simp [sameV, plain] at *
    rename_i y
    have hb := Go.beq_toListBytes x y
    constructor
    · intro h
      have h2 : (x == y) = true := by rw [hb]; simp [h]
      exact (Go.MapKept.bytes_beq _ _).1 h2
    · intro h; rw [h]
  | .agg x, y, h1, h2 => by
    cases y <;> simp only [sameV, plain, Bool.false_eq_true, false_iff, reduceCtorEq, not_false_eq_true, AV.agg.injEq] at *
    · exact sameL_eq h1 h2
  | .nl, y, h1, h2 => by simp [plain] at h1
  | .rs _ _, y, h1, h2 => by simp [plain] at h1
  | .sl _ _ _, y, h1, h2 => by simp [plain] at h1
  | .p _ _ _, y, h1, h2 => by simp [plain] at h1
  | .rp _ _ _, y, h1, h2 => by simp [plain] at h1
  | .np, y, h1, h2 => by simp [plain] at h1
  | .ln _, y, h1, h2 => by simp [plain] at h1
  | .fn _ _, y, h1, h2 => by simp [plain] at h1
  | .nf, y, h1, h2 => by simp [plain] at h1
  | .yl _, y, h1, h2 => by simp [plain] at h1
  | .ni, y, h1, h2 => by simp [plain] at h1
  | .nm, y, h1, h2 => by simp [plain] at h1
  | .ifc _ _, y, h1, h2 => by simp [plain] at h1
  | .tup _, y, h1, h2 => by simp [plain] at h1
  | .e0 _, y, h1, h2 => by simp [plain] at h1
  | .gv _ _ _, y, h1, h2 => by simp [plain] at h1
  | .sa _ _ _ _, y, h1, h2 => by simp [plain] at h1
  | .mp _, y, h1, h2 => by simp [plain] at h1
  | .it _, y, h1, h2 => by simp [plain] at h1
  | .u, y, h1, h2 => by simp [plain] at h1
theorem sameL_eq : ∀ {x y : List AV}, plainL x = true → plainL y = true → (sameL x y = true ↔ x = y)
  | [], [], _, _ => by simp [sameL]
  | [], _ :: _, _, _ => by simp [sameL]
  | _ :: _, [], _, _ => by simp [sameL]
  | a :: x, b :: y, h1, h2 => by
    simp only [plainL, Bool.and_eq_true] at h1 h2
    simp only [sameL, Bool.and_eq_true, List.cons.injEq, sameV_eq h1.1 h2.1, sameL_eq h1.2 h2.2]
end

theorem plainL_at : ∀ {l : List AV} {i : Nat}, plainL l = true → i < l.length → plain (l.getD i .u) = true
  | [], i, _, h => by simp at h
  | a :: l, i, h, hi => by
    simp only [plainL, Bool.and_eq_true] at h
    cases i with
    | zero => simpa using h.1
    | succ i => simpa using plainL_at h.2 (by simpa using hi)
theorem toVL_at : ∀ {l : List AV} {i : Nat}, i < l.length → (toVL l).getD i undef = toV (l.getD i .u)
  | [], i, h => by simp at h
  | a :: l, 0, _ => by simp [toVL]
  | a :: l, i + 1, h => by simpa [toVL] using toVL_at (by simpa using h)

theorem flatT_ct {t : TypeId} (h : flatT P t = true) : ∃ c d, cts P t = [c] ∧ P.underlying t = some d ∧ isAgg P t = false ∧ ((∃ k, c = .int k ∧ d = .int k) ∨ (c = .bool ∧ d = .bool) ∨ (c = .str ∧ d = .string)) := by
  unfold flatT at h
  cases hu : P.underlying t with
  | none => simp [hu] at h
  | some d =>
    rw [hu] at h
    cases d <;> simp at h
    · exact ⟨.bool, _, by simp [cts, ctsOf, hu], rfl, by simp [isAgg, hu], .inr (.inl ⟨rfl, rfl⟩)⟩
    · exact ⟨.int _, _, by simp [cts, ctsOf, hu], rfl, by simp [isAgg, hu], .inl ⟨_, rfl, rfl⟩⟩
    · exact ⟨.str, _, by simp [cts, ctsOf, hu], rfl, by simp [isAgg, hu], .inr (.inr ⟨rfl, rfl⟩)⟩
theorem flat_eq {t : TypeId} (h : flatT P t = true) {c : CT} (hc : cts P t = [c]) {x y : AV} (hx : WT P c x) (hy : WT P c y) (hpx : plain x = true) (hpy : plain y = true) (d : Nat) :
    (Op.equalIn (d + 1) t (toV x) (toV y)).run P w = .ok (sameV x y) w ∧ (∀ ds, P.underlying t = some ds → Instr.sameNow ds (toV x) (toV y) = some (sameV x y)) ∧ ∀ n, Instr.sameBits n (toV x) (toV x) = true := by
  obtain ⟨c', ds, h1, h2, _, h3⟩ := flatT_ct h
  obtain rfl : c = c' := by rw [hc] at h1; simpa using h1
  rcases h3 with ⟨k, rfl, rfl⟩ | ⟨rfl, rfl⟩ | ⟨rfl, rfl⟩
  · cases hx; cases hy
    simp only [toV, sameV]
    refine ⟨by rw [run_equalIn_int w d t _ _ _ _ h2]; simp; rfl, fun ds hds => ?_, fun n => by cases n <;> simp [Instr.sameBits]⟩
    obtain rfl := Option.some.inj (h2.symm.trans hds)
    simp [Instr.sameNow]; rfl
  · cases hx; cases hy
    simp only [toV, sameV]
    refine ⟨run_equalIn_bool' w d t _ _ h2, fun ds hds => ?_, fun n => by cases n <;> simp [Instr.sameBits]⟩
    obtain rfl := Option.some.inj (h2.symm.trans hds)
    simp [Instr.sameNow]
  · cases hx; cases hy
    simp only [toV, sameV]
    refine ⟨run_equalIn_string w d t _ _ h2, fun ds hds => ?_, fun n => by cases n <;> simp [Instr.sameBits, Go.beq_toListBytes]⟩
    obtain rfl := Option.some.inj (h2.symm.trans hds)
    simp [Instr.sameNow, Go.beq_toListBytes]
theorem ctsAt_one {all : List CT} {i : Nat} {c : CT} (h : ctsEq ((all.drop i).take 1) [c] = true) : all.getD i .oth = c ∧ i < all.length := by
  have := ctsEq_eq h
  cases hd : all.drop i with
  | nil => simp [hd] at this
  | cons a l =>
    rw [hd] at this
    simp at this
    subst this
    have hlt : i < all.length := by
      rcases Nat.lt_or_ge i all.length with g | g
      · exact g
      · rw [List.drop_eq_nil_of_le g] at hd; cases hd
    have h3 := hd.symm.trans (List.drop_eq_getElem_cons hlt)
    injection h3 with h4 h5
    exact ⟨by simp [List.getD_eq_getElem?_getD, List.getElem?_eq_getElem hlt, h4], hlt⟩
theorem run_part_flat {t : TypeId} (h : flatT P t = true) {cs : List AV} {i : Nat} (hi : i < cs.length) : (part t (toVL cs).toArray i).run P w = .ok (toV (cs.getD i .u)) w := by
  obtain ⟨_, d, _, hu, hA, _⟩ := flatT_ct h
  have hl : i < (toVL cs).length := by rw [toVL_length]; exact hi
  have := toVL_at hi
  rw [List.getD_eq_getElem?_getD, List.getElem?_eq_getElem hl] at this
  simp only [part, Sem.run_bind, run_isAgg' hu, hA, Result.andThen_ok, Bool.false_eq_true, if_false]
  simp [hl]
  simpa using this
theorem sameL_drop {xs ys : List AV} {i : Nat} (h1 : i < xs.length) (h2 : i < ys.length) : sameL (xs.drop i) (ys.drop i) = (sameV (xs.getD i .u) (ys.getD i .u) && sameL (xs.drop (i + 1)) (ys.drop (i + 1))) := by
  rw [List.drop_eq_getElem_cons h1, List.drop_eq_getElem_cons h2]
  simp [sameL, List.getD_eq_getElem?_getD, h1, h2]

theorem fields_eq {all : List CT} {xs ys : List AV} (hx : WTs P all xs) (hy : WTs P all ys) (hpx : plainL xs = true) (hpy : plainL ys = true) (d : Nat) : ∀ (fs : List Field) (i : Nat), i + fs.length = all.length →
    (∀ x, x ∈ fs.zipIdx i → (flatT P x.1.type && (x.1.name != "_" && (Nat.beq x.1.offset x.2 && ctsEq ((all.drop x.2).take 1) (cts P x.1.type)))) = true) →
    (Op.eqFields (d + 1) (toVL xs).toArray (toVL ys).toArray fs).run P w = .ok (sameL (xs.drop i) (ys.drop i)) w
  | [], i, hl, _ => by
    have e1 : xs.drop i = [] := List.drop_eq_nil_of_le (by rw [hx.1]; simp at hl; omega)
    have e2 : ys.drop i = [] := List.drop_eq_nil_of_le (by rw [hy.1]; simp at hl; omega)
    rw [e1, e2]
    simp [Op.eqFields, sameL]
  | f :: fs, i, hl, hf => by
    simp only [List.length_cons] at hl
    have h0 := hf (f, i) (by simp [List.zipIdx_cons])
    simp only [Bool.and_eq_true] at h0
    obtain ⟨g1, g2, g3, g4⟩ := h0
    obtain ⟨c, ds, hc, _⟩ := flatT_ct g1
    rw [hc] at g4
    obtain ⟨g5, g6⟩ := ctsAt_one g4
    have g3 := Nat.eq_of_beq_eq_true g3
    have hix : i < xs.length := by rw [hx.1]; exact g6
    have hiy : i < ys.length := by rw [hy.1]; exact g6
    have q1 := (flat_eq (w := w) g1 hc (g5 ▸ hx.2 i hix) (g5 ▸ hy.2 i hiy) (plainL_at hpx hix) (plainL_at hpy hiy) d).1
    have hn : f.name ≠ "_" := by simpa using g2
    rw [Op.eqFields, if_pos hn, g3, sameL_drop hix hiy]
    simp only [Sem.run_bind, run_part_flat g1 hix, run_part_flat g1 hiy, q1, Result.andThen_ok]
    cases sameV (xs.getD i .u) (ys.getD i .u)
    · simp
    · simpa using fields_eq hx hy hpx hpy d fs (i + 1) (by omega) fun x hx => hf x (by rw [List.zipIdx_cons]; exact .tail _ hx)
theorem items_eq {all : List CT} {e : TypeId} {xs ys : List AV} (hx : WTs P all xs) (hy : WTs P all ys) (hpx : plainL xs = true) (hpy : plainL ys = true) (he : flatT P e = true) (h1 : P.cellsOf e = 1) (d : Nat) : ∀ (m i : Nat), i + m = all.length →
    (∀ j, i ≤ j → j < all.length → ctsEq ((all.drop j).take 1) (cts P e) = true) →
    (Op.eqItems (d + 1) e (P.cellsOf e) (toVL xs).toArray (toVL ys).toArray (List.range' i m)).run P w = .ok (sameL (xs.drop i) (ys.drop i)) w
  | 0, i, hl, _ => by
    have e1 : xs.drop i = [] := List.drop_eq_nil_of_le (by rw [hx.1]; omega)
    have e2 : ys.drop i = [] := List.drop_eq_nil_of_le (by rw [hy.1]; omega)
    rw [e1, e2]
    simp [Op.eqItems, sameL]
  | m + 1, i, hl, hf => by
    obtain ⟨c, ds, hc, _⟩ := flatT_ct he
    have h0 := hf i (Nat.le_refl _) (by omega)
    rw [hc] at h0
    obtain ⟨g5, g6⟩ := ctsAt_one h0
    have hix : i < xs.length := by rw [hx.1]; exact g6
    have hiy : i < ys.length := by rw [hy.1]; exact g6
    have q1 := (flat_eq (w := w) he hc (g5 ▸ hx.2 i hix) (g5 ▸ hy.2 i hiy) (plainL_at hpx hix) (plainL_at hpy hiy) d).1
    rw [List.range'_succ, sameL_drop hix hiy]
    simp only [Op.eqItems, Sem.run_bind, show i * P.cellsOf e = i by rw [h1]; omega, run_part_flat he hix, run_part_flat he hiy, q1, Result.andThen_ok]
    cases sameV (xs.getD i .u) (ys.getD i .u)
    · simp
    · simpa using items_eq hx hy hpx hpy he h1 d m (i + 1) (by omega) fun j hj => hf j (by omega)

theorem key_eq {t : TypeId} (hk : keyT P t = true) {x y : AV} (hx : TV P t x) (hy : TV P t y) (hpx : plain x = true) (hpy : plain y = true) (d : Nat) :
    (Op.equalIn (d + 2) t (toV x) (toV y)).run P w = .ok (sameV x y) w := by
  have flat : flatT P t = true → (Op.equalIn (d + 2) t (toV x) (toV y)).run P w = .ok (sameV x y) w := fun hf => by
    obtain ⟨c, ds, hc, hu, hA, _⟩ := flatT_ct hf
    have hwx := hx.w
    have hwy := hy.w
    rw [hx.n hA, hc] at hwx
    rw [hy.n hA, hc] at hwy
    exact (flat_eq hf hc (by simpa using hwx.2 0 (by simp)) (by simpa using hwy.2 0 (by simp)) hpx hpy (d + 1)).1
  unfold keyT at hk
  cases hu : P.underlying t with
  | none => simp [hu] at hk
  | some ds =>
    rw [hu] at hk
    cases ds <;> simp only at hk <;> first | (cases hk; done) | skip
    case bool => exact flat (by simp [flatT, hu])
    case int k => exact flat (by simp [flatT, hu])
    case string => exact flat (by simp [flatT, hu])
    case array n e =>
      simp only [Bool.and_eq_true] at hk
      obtain ⟨g1, g2, g3, g4, g5⟩ := hk
      have hA : isAgg P t = true := by simp [isAgg, hu]
      obtain ⟨xs, rfl⟩ := hx.a hA
      obtain ⟨ys, rfl⟩ := hy.a hA
      obtain ⟨i, hi⟩ := Option.isSome_iff_exists.1 g1
      have hn := Nat.eq_of_beq_eq_true g2
      simp only [toV, sameV]
      rw [run_equalIn_array (P := P) w (d + 1) _ _ hu hi, List.range_eq_range']
      have := items_eq (w := w) (show WTs P (cts P t) xs from hx.w) (show WTs P (cts P t) ys from hy.w) (by simpa [plain] using hpx) (by simpa [plain] using hpy) g3 (Nat.eq_of_beq_eq_true g4) d n 0 (by omega) fun j _ hj => List.all_eq_true.1 g5 j (by simpa using by omega)
      simpa using this
    case struct fs =>
      simp only [Bool.and_eq_true] at hk
      obtain ⟨g1, g2, g3⟩ := hk
      have hA : isAgg P t = true := by simp [isAgg, hu]
      obtain ⟨xs, rfl⟩ := hx.a hA
      obtain ⟨ys, rfl⟩ := hy.a hA
      have hf : P.fieldsOf t = fs := by simp [Program.fieldsOf, hu]
      simp only [toV, sameV]
      rw [run_equalIn_struct (P := P) w (d + 1) t _ _ (by rw [hf]; exact hu) (by simpa using g1), hf]
      have := fields_eq (w := w) (show WTs P (cts P t) xs from hx.w) (show WTs P (cts P t) ys from hy.w) (by simpa [plain] using hpx) (by simpa [plain] using hpy) d fs.toList 0 (by have := Nat.eq_of_beq_eq_true g2; simp; omega) fun x hx => by
        have := List.all_eq_true.1 g3 x hx
        simpa using this
      simpa using this

theorem check_flat {t : TypeId} (h : flatT P t = true) (v : Value) (em : Bool) (n : Nat) : (Instr.checkKey em (n + 1) t v).run P w = .ok () w := by
  obtain ⟨_, d, _, hu, _, hd⟩ := flatT_ct h
  rw [Instr.checkKey]
  simp only [Sem.run_bind, run_underlying' hu, Result.andThen_ok]
  rcases hd with ⟨k, _, rfl⟩ | ⟨_, rfl⟩ | ⟨_, rfl⟩ <;> rfl
theorem check_ok {t : TypeId} (hk : keyT P t = true) {x : AV} (hx : TV P t x) (em : Bool) (n : Nat) : (Instr.checkKey em (n + 2) t (toV x)).run P w = .ok () w := by
  unfold keyT at hk
  cases hu : P.underlying t with
  | none => simp [hu] at hk
  | some ds =>
    rw [hu] at hk
    cases ds <;> simp only at hk <;> first | (cases hk; done) | skip
    case bool => exact check_flat (by simp [flatT, hu]) _ _ _
    case int k => exact check_flat (by simp [flatT, hu]) _ _ _
    case string => exact check_flat (by simp [flatT, hu]) _ _ _
    case array m e =>
      simp only [Bool.and_eq_true] at hk
      obtain ⟨g1, g2, g3, g4, g5⟩ := hk
      have hA : isAgg P t = true := by simp [isAgg, hu]
      obtain ⟨xs, rfl⟩ := hx.a hA
      obtain ⟨i, hi⟩ := Option.isSome_iff_exists.1 g1
      have hw : WTs P (cts P t) xs := hx.w
      have hl : xs.length = m := by rw [hw.1]; exact Nat.eq_of_beq_eq_true g2
      have h1 := Nat.eq_of_beq_eq_true g4
      rw [Instr.checkKey]
      simp only [Sem.run_bind, run_underlying' hu, Result.andThen_ok, toV]
      have key : ∀ (is : List Nat), (∀ i, i ∈ is → i < m) → (forIn is PUnit.unit (fun (i : Nat) (_ : PUnit) => (do Instr.checkKey em (n + 1) e (← part e (toVL xs).toArray (i * (← sizeOf e))); pure (ForInStep.yield PUnit.unit) : Sem (ForInStep PUnit)))).run P w = .ok PUnit.unit w := by
        intro is
        induction is with
        | nil => intro _; simp
        | cons j is ih =>
          intro hj
          have hjl : j < xs.length := by rw [hl]; exact hj j (by simp)
          have hs : (sizeOf e).run P w = .ok 1 w := by rw [run_sizeOf' (by omega)]; rw [h1]
          simp only [List.forIn_cons, Sem.run_bind, hs, Result.andThen_ok, Nat.mul_one, run_part_flat g3 hjl, check_flat g3, Sem.run_pure]
          exact ih fun i hi => hj i (by simp [hi])
      simp only [Std.Legacy.Range.forIn_eq_forIn_range', Std.Legacy.Range.size, Nat.sub_zero, Nat.add_one_sub_one, Nat.div_one]
      have := key (List.range' 0 m) (fun i hi => by simp at hi; omega)
      simp at this ⊢
      rw [this]
      rfl
    case struct fs =>
      simp only [Bool.and_eq_true] at hk
      obtain ⟨g1, g2, g3⟩ := hk
      have hA : isAgg P t = true := by simp [isAgg, hu]
      obtain ⟨xs, rfl⟩ := hx.a hA
      have hw : WTs P (cts P t) xs := hx.w
      have hl : xs.length = fs.size := by rw [hw.1]; exact Nat.eq_of_beq_eq_true g2
      rw [Instr.checkKey]
      simp only [Sem.run_bind, run_underlying' hu, Result.andThen_ok, toV]
      have hall : ∀ f, f ∈ fs.toList → flatT P f.type = true ∧ f.offset < xs.length := fun f hf => by
        obtain ⟨i, hi, rfl⟩ := List.mem_iff_getElem.1 hf
        have := List.all_eq_true.1 g3 (fs.toList[i], i) (by rw [List.mem_zipIdx_iff_getElem?]; simp)
        simp only [Bool.and_eq_true] at this
        have h2 := Nat.eq_of_beq_eq_true this.2.2.1
        refine ⟨this.1, ?_⟩
        rw [h2, hl]; simpa using hi
      rw [← Array.forIn_toList]
      generalize fs.toList = l at hall
      induction l with
      | nil => simp
      | cons f l ih =>
        obtain ⟨q1, q2⟩ := hall f (by simp)
        have ih := ih fun g hg => hall g (by simp [hg])
        simp only [List.forIn_cons, Sem.run_bind, Sem.run_ite] at ih ⊢
        split
        · simp only [Sem.run_bind, run_part_flat q1 q2, check_flat q1, Sem.run_pure, Result.andThen_ok] at ih ⊢
          exact ih
        · simp only [Sem.run_pure, Result.andThen_ok] at ih ⊢
          exact ih

def mfind (k : AV) : List (AV × AV) → Nat → Option (Nat × AV)
  | [], _ => none
  | (k', v) :: r, i => cond (sameV k k') (some (i, v)) (mfind k r (i + 1))
theorem mfind_get (k : AV) : ∀ (es : List (AV × AV)) (i : Nat), (mfind k es i).map (·.2) = mget k es
  | [], _ => rfl
  | (k', v) :: r, i => by
    simp only [mfind, mget]
    cases sameV k k'
    · exact mfind_get k r (i + 1)
    · rfl
theorem mfind_at {k : AV} : ∀ {es : List (AV × AV)} {i j : Nat} {v : AV}, mfind k es i = some (j, v) → ∃ m, j = i + m ∧ ∃ k', es[m]? = some (k', v) ∧ sameV k k' = true
  | [], i, j, v, h => by cases h
  | (k', v') :: r, i, j, v, h => by
    simp only [mfind] at h
    cases hs : sameV k k' with
    | true =>
      rw [hs] at h
      simp only [cond_true, Option.some.injEq, Prod.mk.injEq] at h
      exact ⟨0, by omega, k', by simp [h.2], hs⟩
    | false =>
      rw [hs] at h
      obtain ⟨m, h1, k2, h2, h3⟩ := mfind_at (es := r) h
      exact ⟨m + 1, by omega, k2, by simpa using h2, h3⟩
def Ent (P : Program) (kt : TypeId) (es : List (AV × AV)) (l : List MapEntry) : Prop :=
  l.length = es.length ∧ ∀ i, i < es.length → TV P kt (es.getD i (.u, .u)).1 ∧ plain (es.getD i (.u, .u)).1 = true ∧ (l.getD i default).key = toV (es.getD i (.u, .u)).1
theorem Ent.tail {kt : TypeId} {e : AV × AV} {es : List (AV × AV)} {m : MapEntry} {l : List MapEntry} (h : Ent P kt (e :: es) (m :: l)) : Ent P kt es l :=
  ⟨by simpa using h.1, fun i hi => by simpa using h.2 (i + 1) (by simpa using hi)⟩
theorem find_asking {kt : TypeId} (hk : keyT P kt = true) {x : AV} (hx : TV P kt x) (hp : plain x = true) : ∀ (es : List (AV × AV)) (l : List MapEntry) (i : Nat), Ent P kt es l →
    (Instr.findAsking kt (toV x) l i).run P w = .ok ((mfind x es i).map fun r => (r.1, (l.getD (r.1 - i) default).val)) w
  | [], [], i, _ => by simp [Instr.findAsking, mfind]
  | [], _ :: _, i, h => by simp [Ent] at h
  | _ :: _, [], i, h => by simp [Ent] at h
  | (k', v) :: es, m :: l, i, h => by
    obtain ⟨g1, g2, g3⟩ := h.2 0 (by simp)
    simp only [List.getD_cons_zero] at g1 g2 g3
    have he : (Op.equal kt (toV x) m.key).run P w = .ok (sameV x k') w := by rw [g3]; exact key_eq hk hx g1 hp g2 9998
    simp only [Instr.findAsking, Sem.run_bind, he, Result.andThen_ok, mfind]
    cases sameV x k'
    · simp only [Bool.false_eq_true, if_false, cond_false]
      rw [find_asking hk hx hp es l (i + 1) h.tail]
      congr 1
      cases hm : mfind x es (i + 1) with
      | none => rfl
      | some r =>
        obtain ⟨j, v'⟩ := r
        obtain ⟨q, hq, _⟩ := mfind_at hm
        simp only [Option.map_some]
        rw [show j - i = (j - (i + 1)) + 1 by omega, List.getD_cons_succ]
    · simp
theorem find_now {kt : TypeId} {ds : TypeDesc} (hu : P.underlying kt = some ds) (hf : flatT P kt = true) {x : AV} (hx : TV P kt x) (hp : plain x = true) : ∀ (es : List (AV × AV)) (l : List MapEntry) (i : Nat), Ent P kt es l →
    Instr.findNow ds (toV x) l i = some ((mfind x es i).map fun r => (r.1, (l.getD (r.1 - i) default).val))
  | [], [], i, _ => by simp [Instr.findNow, mfind]
  | [], _ :: _, i, h => by simp [Ent] at h
  | _ :: _, [], i, h => by simp [Ent] at h
  | (k', v) :: es, m :: l, i, h => by
    obtain ⟨g1, g2, g3⟩ := h.2 0 (by simp)
    simp only [List.getD_cons_zero] at g1 g2 g3
    obtain ⟨c, ds', hc, hu', hA, _⟩ := flatT_ct hf
    have hwx := hx.w
    have hwy := g1.w
    rw [hx.n hA, hc] at hwx
    rw [g1.n hA, hc] at hwy
    have he := (flat_eq (P := P) (w := default) hf hc (by simpa using hwx.2 0 (by simp)) (by simpa using hwy.2 0 (by simp)) hp g2 0).2.1 ds hu
    simp only [Instr.findNow, g3, he, mfind]
    cases sameV x k'
    · simp only [cond_false]
      rw [find_now hu hf hx hp es l (i + 1) h.tail]
      congr 1
      cases hm : mfind x es (i + 1) with
      | none => rfl
      | some r =>
        obtain ⟨j, v'⟩ := r
        obtain ⟨q, hq, _⟩ := mfind_at hm
        simp only [Option.map_some]
        rw [show j - i = (j - (i + 1)) + 1 by omega, List.getD_cons_succ]
    · simp
theorem find_key {kt : TypeId} (hk : keyT P kt = true) {x : AV} (hx : TV P kt x) (hp : plain x = true) {es : List (AV × AV)} {l : List MapEntry} (h : Ent P kt es l) :
    (Instr.findKey kt (toV x) l).run P w = .ok ((mfind x es 0).map fun r => (r.1, (l.getD r.1 default).val)) w := by
  by_cases hf : flatT P kt = true
  · obtain ⟨c, ds, hc, hu, _⟩ := flatT_ct hf
    have := find_now hu hf hx hp es l 0 h
    simp only [Instr.findKey, Sem.run_bind, run_underlying' hu, Result.andThen_ok, this, Sem.run_pure]
    simp
  · rw [run_findKey_eq w (by
      unfold keyT at hk
      unfold flatT at hf
      cases hu : P.underlying kt with
      | none => simp [hu] at hk
      | some d => cases d <;> simp [hu] at hk hf ⊢)]
    have := find_asking (w := w) hk hx hp es l 0 h
    simpa using this

theorem mset_none {k v : AV} : ∀ (es : List (AV × AV)) (i : Nat), mfind k es i = none → mset k v es = es ++ [(k, v)]
  | [], _, _ => rfl
  | (k', v') :: r, i, h => by
    simp only [mfind] at h
    cases hs : sameV k k' with
    | true => rw [hs] at h; cases h
    | false =>
      rw [hs] at h
      simp only [mset, hs, cond_false, List.cons_append]
      rw [mset_none r (i + 1) h]
theorem mset_some {k v : AV} : ∀ (es : List (AV × AV)) (i : Nat) {j : Nat} {v0 : AV}, mfind k es i = some (j, v0) → mset k v es = es.set (j - i) (k, v)
  | [], _, _, _, h => by cases h
  | (k', v') :: r, i, j, v0, h => by
    simp only [mfind] at h
    cases hs : sameV k k' with
    | true =>
      rw [hs] at h
      simp only [cond_true, Option.some.injEq, Prod.mk.injEq] at h
      simp [mset, hs, h.1]
    | false =>
      rw [hs] at h
      obtain ⟨m, h1, _⟩ := mfind_at (es := r) h
      simp only [mset, hs, cond_false]
      rw [mset_some r (i + 1) h, show j - i = (j - (i + 1)) + 1 by omega, List.set_cons_succ]
theorem bits_flat {c : CT} {x : AV} (hW : WT P c x) (hc : (∃ k, c = .int k) ∨ c = .bool ∨ c = .str) (n : Nat) : Instr.sameBits n (toV x) (toV x) = true := by
  cases hW with
  | int => cases n <;> simp [toV, Instr.sameBits]
  | bool => cases n <;> simp [toV, Instr.sameBits]
  | str => cases n <;> simp [toV, Instr.sameBits, Go.beq_toListBytes]
  | sl => simp at hc
  | oth => simp at hc
theorem key_cts {t : TypeId} (hk : keyT P t = true) {cs : List AV} (hl : cs.length = (cts P t).length) (i : Nat) (hi : i < cs.length) : (∃ k, (cts P t).getD i .oth = .int k) ∨ (cts P t).getD i .oth = .bool ∨ (cts P t).getD i .oth = .str := by
  have of : ∀ {t : TypeId} {c : CT}, flatT P t = true → cts P t = [c] → (∃ k, c = .int k) ∨ c = .bool ∨ c = .str := fun hf hc => by
    obtain ⟨c', d, h1, _, _, h2⟩ := flatT_ct hf
    rw [hc] at h1
    obtain rfl : _ = c' := by simpa using h1
    rcases h2 with ⟨k, h, _⟩ | ⟨h, _⟩ | ⟨h, _⟩
    · exact .inl ⟨k, h⟩
    · exact .inr (.inl h)
    · exact .inr (.inr h)
  have one : flatT P t = true → (∃ k, (cts P t).getD i .oth = .int k) ∨ (cts P t).getD i .oth = .bool ∨ (cts P t).getD i .oth = .str := fun hf => by
    obtain ⟨c, d, h1, _⟩ := flatT_ct hf
    have : i = 0 := by rw [h1] at hl; simp at hl; omega
    subst this
    rw [h1]
    exact of hf h1
  unfold keyT at hk
  cases hu : P.underlying t with
  | none => simp [hu] at hk
  | some ds =>
    rw [hu] at hk
    cases ds <;> simp only at hk <;> first | (cases hk; done) | skip
    case bool => exact one (by simp [flatT, hu])
    case int k => exact one (by simp [flatT, hu])
    case string => exact one (by simp [flatT, hu])
    case array m e =>
      simp only [Bool.and_eq_true] at hk
      obtain ⟨g1, g2, g3, g4, g5⟩ := hk
      have g2 := Nat.eq_of_beq_eq_true g2
      have h0 := List.all_eq_true.1 g5 i (by simp; omega)
      obtain ⟨c, d, h1, _⟩ := flatT_ct g3
      rw [h1] at h0
      rw [(ctsAt_one h0).1]
      exact of g3 h1
    case struct fs =>
      simp only [Bool.and_eq_true] at hk
      obtain ⟨g1, g2, g3⟩ := hk
      have g2 := Nat.eq_of_beq_eq_true g2
      have hif : i < fs.toList.length := by simp; omega
      have h0 := List.all_eq_true.1 g3 (fs.toList[i], i) (by rw [List.mem_zipIdx_iff_getElem?]; simp [hif])
      simp only [Bool.and_eq_true] at h0
      obtain ⟨c, d, h1, _⟩ := flatT_ct h0.1
      have h2 := h0.2.2.2
      rw [h1] at h2
      rw [(ctsAt_one h2).1]
      exact of h0.1 h1
theorem bits_self {t : TypeId} (hk : keyT P t = true) {x : AV} (hx : TV P t x) (n : Nat) : Instr.sameBits (n + 1) (toV x) (toV x) = true := by
  cases hA : isAgg P t with
  | true =>
    obtain ⟨cs, rfl⟩ := hx.a hA
    have hw : WTs P (cts P t) cs := hx.w
    have : ∀ (l : List AV), (∀ i, i < l.length → Instr.sameBits n (toV (l.getD i .u)) (toV (l.getD i .u)) = true) → ((toVL l).zip (toVL l)).all (fun p => Instr.sameBits n p.1 p.2) = true := by
      intro l
      induction l with
      | nil => intro _; rfl
      | cons a l ih =>
        intro h
        simp only [toVL, List.zip_cons_cons, List.all_cons, Bool.and_eq_true]
        exact ⟨by simpa using h 0 (by simp), ih fun i hi => by simpa using h (i + 1) (by simpa using hi)⟩
    have h2 := this cs fun i hi => bits_flat (hw.2 i hi) (key_cts hk hw.1 i hi) n
    simp only [toV, Instr.sameBits, beq_self_eq_true, Bool.true_and]
    exact h2
  | false =>
    have hw := hx.w
    rw [hx.n hA] at hw
    exact bits_flat (by simpa using hw.2 0 (by simp)) (by have := key_cts hk hw.1 0 (by simp); simpa using this) _
theorem decode_gen (b0 b1 b2 b3 : Nat) (c1 c2 c3 : Bool) : let r : Nat × Nat := (if b0 < 0x80 then (b0, 1)
  else if b0 / 32 == 6 && c1 then
    if (b0 % 32) * 64 + b1 % 64 ≥ 0x80 then ((b0 % 32) * 64 + b1 % 64, 2) else (Utf8.runeError, 1)
  else if b0 / 16 == 14 && c1 && c2 then
    if (b0 % 16) * 4096 + (b1 % 64) * 64 + b2 % 64 ≥ 0x800 && Utf8.valid ((b0 % 16) * 4096 + (b1 % 64) * 64 + b2 % 64 : Nat) then ((b0 % 16) * 4096 + (b1 % 64) * 64 + b2 % 64, 3) else (Utf8.runeError, 1)
  else if b0 / 8 == 30 && c1 && c2 && c3 then
    if (b0 % 8) * 262144 + (b1 % 64) * 4096 + (b2 % 64) * 64 + b3 % 64 ≥ 0x10000 && Utf8.valid ((b0 % 8) * 262144 + (b1 % 64) * 4096 + (b2 % 64) * 64 + b3 % 64 : Nat) then ((b0 % 8) * 262144 + (b1 % 64) * 4096 + (b2 % 64) * 64 + b3 % 64, 4) else (Utf8.runeError, 1)
  else (Utf8.runeError, 1)); r.1 ≤ 1114111 ∧ 0 < r.2 := by
  intro r
  have h1 := Nat.mod_lt b1 (show 0 < 64 by omega)
  have h2 := Nat.mod_lt b2 (show 0 < 64 by omega)
  have h4 := Nat.mod_lt b0 (show 0 < 32 by omega)
  have h5 := Nat.mod_lt b0 (show 0 < 16 by omega)
  have he : Utf8.runeError ≤ 1114111 := by show (65533 : Nat) ≤ 1114111; omega
  show r.1 ≤ 1114111 ∧ 0 < r.2
  have key : ∀ (p : Nat × Nat), r = p → p.1 ≤ 1114111 ∧ 0 < p.2 → r.1 ≤ 1114111 ∧ 0 < r.2 := fun p h1 h2 => h1 ▸ h2
  by_cases g0 : b0 < 0x80
  · exact key (b0, 1) (if_pos g0) ⟨by show b0 ≤ 1114111; omega, Nat.one_pos⟩
  cases g1 : (b0 / 32 == 6 && c1) with
  | true =>
    by_cases g2 : (b0 % 32) * 64 + b1 % 64 ≥ 0x80
    · exact key _ ((if_neg g0).trans ((if_pos g1).trans (if_pos g2))) ⟨by show (b0 % 32) * 64 + b1 % 64 ≤ 1114111; omega, by show 0 < 2; omega⟩
    · exact key _ ((if_neg g0).trans ((if_pos g1).trans (if_neg g2))) ⟨he, Nat.one_pos⟩
  | false =>
    have g1' : ¬ (b0 / 32 == 6 && c1) = true := by rw [g1]; exact Bool.false_ne_true
    cases g2 : (b0 / 16 == 14 && c1 && c2) with
    | true =>
      cases g3 : (decide ((b0 % 16) * 4096 + (b1 % 64) * 64 + b2 % 64 ≥ 0x800) && Utf8.valid ((b0 % 16) * 4096 + (b1 % 64) * 64 + b2 % 64 : Nat)) with
      | true => exact key _ ((if_neg g0).trans ((if_neg g1').trans ((if_pos g2).trans (if_pos g3)))) ⟨by show (b0 % 16) * 4096 + (b1 % 64) * 64 + b2 % 64 ≤ 1114111; omega, by show 0 < 3; omega⟩
      | false => exact key _ ((if_neg g0).trans ((if_neg g1').trans ((if_pos g2).trans (if_neg (by rw [g3]; exact Bool.false_ne_true))))) ⟨he, Nat.one_pos⟩
    | false =>
      have g2' : ¬ (b0 / 16 == 14 && c1 && c2) = true := by rw [g2]; exact Bool.false_ne_true
      cases g3 : (b0 / 8 == 30 && c1 && c2 && c3) with
      | true =>
        cases g4 : (decide ((b0 % 8) * 262144 + (b1 % 64) * 4096 + (b2 % 64) * 64 + b3 % 64 ≥ 0x10000) && Utf8.valid ((b0 % 8) * 262144 + (b1 % 64) * 4096 + (b2 % 64) * 64 + b3 % 64 : Nat)) with
        | true =>
          refine key _ ((if_neg g0).trans ((if_neg g1').trans ((if_neg g2').trans ((if_pos g3).trans (if_pos g4))))) ⟨?_, by show 0 < 4; omega⟩
          show (b0 % 8) * 262144 + (b1 % 64) * 4096 + (b2 % 64) * 64 + b3 % 64 ≤ 1114111
          have g5 := (Bool.and_eq_true_iff.1 g4).2
          unfold Utf8.valid at g5
          simp only [Bool.and_eq_true, Bool.or_eq_true, decide_eq_true_eq] at g5
          omega
        | false => exact key _ ((if_neg g0).trans ((if_neg g1').trans ((if_neg g2').trans ((if_pos g3).trans (if_neg (by rw [g4]; exact Bool.false_ne_true)))))) ⟨he, Nat.one_pos⟩
      | false => exact key _ ((if_neg g0).trans ((if_neg g1').trans ((if_neg g2').trans (if_neg (by rw [g3]; exact Bool.false_ne_true))))) ⟨he, Nat.one_pos⟩
theorem decode_bounds (s : ByteArray) (i : Nat) : (Utf8.decode s i).1 ≤ 1114111 ∧ 0 < (Utf8.decode s i).2 :=
  decode_gen (s.get! (i + 0)).toNat (s.get! (i + 1)).toNat (s.get! (i + 2)).toNat (s.get! (i + 3)).toNat (decide (i + 1 < s.size) && (s.get! (i + 1)).toNat / 64 == 2) (decide (i + 2 < s.size) && (s.get! (i + 2)).toNat / 64 == 2) (decide (i + 3 < s.size) && (s.get! (i + 3)).toNat / 64 == 2)
end Go.Ev

set_option linter.unusedVariables false
set_option linter.unusedSimpArgs false
namespace Go.Ev
open Go Go.RowKit

variable {P : Program} {w0 : Base} {X D : Nat → Nat → Prop} {R : Nat → Option (Nat × Nat × Nat)} {st : St} {a : Act} {w : World}
variable {ro : Option Nat} {n : Nat} {o : Oper} {next : Act → World → Prop} {Q : Exit → Act → World → Prop} {ρ : Type} {K : Eff → Option ρ} {r : ρ} {site : Nat} {S : Spec} {RO : Nat → Bool}

theorem over_length {off len : Nat} {ys es : List (List AV)} (hf : off + len ≤ es.length) : (over off len ys es).length = es.length := by
  simp only [over, List.length_append, List.length_take, List.length_drop]
  omega
theorem over_getD {off len : Nat} {ys es : List (List AV)} (hf : off + len ≤ es.length) (k : Nat) :
    (over off len ys es).getD k [] = if off ≤ k ∧ k < off + min len ys.length then ys.getD (k - off) [] else es.getD k [] := by
  simp only [over, List.getD_eq_getElem?_getD, List.getElem?_append, List.length_take, List.getElem?_take, List.getElem?_drop]
  by_cases h1 : k < off
  · rw [if_pos (by omega), if_pos h1, if_neg (by omega)]
  · by_cases h2 : k < off + min len ys.length
    · rw [if_neg (by omega), if_pos (by omega), if_pos (by omega), if_pos (by omega)]
      congr 2; omega
    · rw [if_neg (by omega), if_neg (by omega), if_neg (by omega)]
      congr 2; omega
theorem over_mem {off len : Nat} {ys es : List (List AV)} {x : List AV} (h : x ∈ over off len ys es) : x ∈ ys ∨ x ∈ es := by
  simp only [over, List.mem_append] at h
  rcases h with h | h | h
  · exact .inr (List.mem_of_mem_take h)
  · exact .inl (List.mem_of_mem_take h)
  · exact .inr (List.mem_of_mem_drop h)
theorem SR.same (h : SR P w0 X D R st a w) {id : Nat} {blk : Blk} (hb : gm st.m id = blk) : SR P w0 X D R (st.mem id blk) a w := by
  have e : ∀ i, gm (st.mem id blk).m i = gm st.m i := fun i => by
    simp only [St.mem, gm_cons]
    split
    · rename_i hi; rw [hi, hb]
    · rfl
  exact ⟨h.tmp, h.nt, fun i => by rw [e]; exact h.mem i, h.own, fun i b s et o h1 h2 h3 => h.fx i b s et o h1 h2 (by rw [← e]; exact h3), fun i b s o h1 h2 => h.dom i b s o h1 (by rw [← e]; exact h2),
    fun i i' b s s' h1 h2 h3 h4 h5 h6 => h.inj i i' b s s' h1 h2 h3 h4 (by rw [← e]; exact h5) (by rw [← e]; exact h6), fun i b s h1 h2 => h.nz i b s h1 (fun o => by rw [← e]; exact h2 o), h.X, h.lt, h.old, h.df⟩
theorem SR.overlay (h : SR P w0 X D R st a w) {id off len : Nat} {e : TypeId} {es ys : List (List AV)} {nv : List Value} {b kc : Nat} {cells : Array Value} {ty : TypeId}
    (hm : gm st.m id = .row e es) (h1 : P.cellsOf e = 1) (hR : R id = some (b, P.cellsOf e, kc)) (hh : w.heap[b]? = some (.cells cells ty (0, 0))) (hne : es ≠ []) (hf : off + len ≤ es.length)
    (hW : ∀ x, x ∈ ys → x.length = 1 ∧ WT P ((cts P e).getD 0 .oth) (x.getD 0 .u)) (hl : nv.length = min len ys.length) (hv : ∀ k, k < nv.length → VR P D R w ((ys.getD k []).getD 0 .u) (nv.getD k undef)) :
    SR P w0 X D R (st.mem id (.row e (over off len ys es))) a (w.setRow b (cells.toList.take off ++ nv ++ cells.toList.drop (off + nv.length)).toArray) := by
  generalize hw' : w.setRow b (cells.toList.take off ++ nv ++ cells.toList.drop (off + nv.length)).toArray = w'
  have hother : ∀ k, k ≠ b → w'.heap[k]? = w.heap[k]? := fun k hk => by rw [← hw']; exact setRow_other w b k _ hk
  have hrow0 := h.mem id
  rw [hm] at hrow0
  obtain ⟨b', cells', ty', ⟨kc', g1, gk⟩, g2, g3, g4, g5, g6, g7⟩ := hrow0 hne
  rw [hR] at g1
  obtain ⟨rfl, rfl⟩ : b = b' ∧ kc = kc' := by simpa using g1
  rw [hh] at g2
  obtain ⟨rfl, rfl⟩ : cells = cells' ∧ ty = ty' := by simpa using g2
  obtain ⟨hlen, hrow, hcell⟩ : es.length ≤ 9223372036854775807 ∧ (∀ x, x ∈ es → x.length = (cts P e).length) ∧ (∀ x, x ∈ es → ∀ j, j < x.length → WT P ((cts P e).getD j .oth) (x.getD j .u)) := by
    cases g6 with
    | sl a b c => exact ⟨a, b, c⟩
  rw [h1] at g3 g5 g7
  have hcs : es.length ≤ cells.size := by simpa using g5
  have hs' : (cells.toList.take off ++ nv ++ cells.toList.drop (off + nv.length)).length = cells.size := by
    simp; omega
  have hw'b : w'.heap[b]? = some (.cells (cells.toList.take off ++ nv ++ cells.toList.drop (off + nv.length)).toArray ty (0, 0)) := by
    rw [← hw']; exact setRow_heap w b cells _ ty _ hh
  have hkind : (alive (gm st.m id) = true ∧ ∀ o, owns P (gm st.m id) (P.cellsOf e, kc) o) := by
    rw [hm]; exact ⟨rfl, fun _ => trivial⟩
  refine h.rewrite hR (by simp; omega) hkind.1 hkind.2 hother (by rw [← hw']; simp) (by rw [← hw']; rfl) (by rw [← hw']; rfl) (by rw [← hw']; rfl) (fun _ h => by cases h) fun mono => ?_
  intro _
  refine ⟨b, _, ty, ⟨kc, hR, by rw [List.size_toArray, hs']; exact gk⟩, hw'b, by rw [h1]; exact g3, g4, by rw [List.size_toArray, hs', over_length hf, h1]; omega, .sl (by rw [over_length hf]; exact hlen) (fun x hx => ?_) (fun x hx k hk => ?_), fun i j hi hj => ?_⟩
  · rcases over_mem hx with hx | hx
    · rw [(hW x hx).1, g3]
    · exact hrow x hx
  · rcases over_mem hx with hx | hx
    · obtain rfl : k = 0 := by have := (hW x hx).1; omega
      exact (hW x hx).2
    · exact hcell x hx k hk
  · obtain rfl : j = 0 := by omega
    rw [over_length hf] at hi
    rw [h1, Nat.mul_one, Nat.add_zero, List.getElem?_toArray, splice_get _ _ _ _ (by simp; omega), over_getD hf]
    by_cases hc : off ≤ i ∧ i < off + min len ys.length
    · rw [if_pos hc, if_neg (by omega), if_pos (by omega)]
      have := hv (i - off) (by omega)
      refine ⟨nv.getD (i - off) undef, ?_, mono this⟩
      have : i - off < nv.length := by omega
      simp [List.getD_eq_getElem?_getD, this]
    · rw [if_neg hc]
      obtain ⟨v, q1, q2⟩ := g7 i 0 hi (by omega)
      refine ⟨v, ?_, mono q2⟩
      rw [← q1]
      by_cases h2 : i < off
      · rw [if_pos h2]; simp
      · rw [if_neg h2, if_neg (by omega)]; simp
theorem srcOf_spec (h : SR P w0 X D R st a w) {id : Nat} {e : TypeId} {es ys : List (List AV)} {y : AV} {yv : Value} (hm : gm st.m id = .row e es) (h1 : P.cellsOf e = 1) (hs : srcOf id e es y = some ys) (hy : VR P D R w y yv) :
    ∃ ad sc, yv = .slice ad ys.length sc ∧ ys.length ≤ 9223372036854775807 ∧ (∀ x, x ∈ ys → x.length = 1 ∧ WT P ((cts P e).getD 0 .oth) (x.getD 0 .u)) ∧
      (ys ≠ [] → ∃ c : Addr, ad = some c ∧ ∀ j, j < ys.length → ∃ v, w.cell? (c.add j) = some v ∧ VR P D R w ((ys.getD j []).getD 0 .u) v) := by
  have row : ∀ {zs : List (List AV)}, (cts P e).length = P.cellsOf e → WT P (.sl e) (.rs e zs) → zs.length ≤ 9223372036854775807 ∧ ∀ x, x ∈ zs → x.length = 1 ∧ WT P ((cts P e).getD 0 .oth) (x.getD 0 .u) := fun hc hW => by
    cases hW with
    | sl q1 q2 q3 => exact ⟨q1, fun x hx => ⟨by rw [q2 x hx, hc, h1], q3 x hx 0 (by rw [q2 x hx, hc, h1]; omega)⟩⟩
  have adr : ∀ (b o j : Nat), (⟨b, o, none⟩ : Addr).add j = ⟨b, o + j, none⟩ := fun b o j => by unfold Addr.add; split <;> simp_all
  have empty : ∀ {ad sc}, yv = .slice ad 0 sc → ys = [] → ∃ ad sc, yv = .slice ad ys.length sc ∧ ys.length ≤ 9223372036854775807 ∧ (∀ x, x ∈ ys → x.length = 1 ∧ WT P ((cts P e).getD 0 .oth) (x.getD 0 .u)) ∧
      (ys ≠ [] → ∃ c : Addr, ad = some c ∧ ∀ j, j < ys.length → ∃ v, w.cell? (c.add j) = some v ∧ VR P D R w ((ys.getD j []).getD 0 .u) v) := by
    rintro ad sc rfl rfl
    exact ⟨ad, sc, rfl, by simp, by simp, by simp⟩
  unfold srcOf at hs
  split at hs
  · cases hs
    cases hy
    exact empty rfl rfl
  · obtain ⟨he, hs2⟩ := cond_some hs
    clear hs
    obtain rfl := Nat.eq_of_beq_eq_true he
    cases hs2
    cases hy with
    | rs0 => exact empty rfl rfl
    | @rs _ _ b o c f q1 q2 q3 q4 q5 q6 q7 q8 =>
      obtain ⟨r1, r2⟩ := row q4 q6
      refine ⟨_, _, rfl, r1, r2, fun _ => ⟨_, rfl, fun j hj => ⟨f j 0, ?_, q8 j 0 hj q2⟩⟩⟩
      have := q7 j 0 hj q2
      rw [adr]
      simpa [h1] using this
  · obtain ⟨he, hs2⟩ := cond_some hs
    clear hs
    obtain rfl := Nat.eq_of_beq_eq_true he
    cases hs2
    cases hy with
    | gv0 => exact empty rfl rfl
    | @gv _ _ _ b c f q1 q2 q3 q4 q5 q6 q7 q8 =>
      obtain ⟨r1, r2⟩ := row q4 q6
      refine ⟨_, _, rfl, r1, r2, fun _ => ⟨_, rfl, fun j hj => ⟨f j 0, ?_, q8 j 0 hj q2⟩⟩⟩
      have := q7 j 0 hj q2
      rw [adr]
      simpa [h1] using this
  · rename_i id' off len
    obtain ⟨he, hs2⟩ := cond_some hs
    clear hs
    obtain ⟨he, hf⟩ := Bool.and_eq_true_iff.1 he
    obtain rfl := Nat.eq_of_beq_eq_true he
    have hf := Nat.le_of_ble_eq_true hf
    cases hs2
    cases hy with
    | sl0 => exact empty rfl (by simp)
    | @sl _ _ _ b sz c kp hR hle hlm hcap hpo =>
      by_cases hes : es = []
      · have : len = 0 := by rw [hes] at hf; simp at hf; omega
        subst this
        exact empty rfl (by simp)
      · have hrow := h.mem id
        rw [hm] at hrow
        obtain ⟨b', cells, ty, ⟨kc, m1, mk⟩, m2, m3, m4, m5, m6, m7⟩ := hrow hes
        rw [hR] at m1
        obtain ⟨rfl, rfl, rfl⟩ : b = b' ∧ sz = P.cellsOf e ∧ kp = kc := by simpa using m1
        obtain ⟨r1, r2⟩ := row m3 m6
        have hlen : ((es.drop off).take len).length = len := by simp; omega
        refine ⟨_, _, by rw [hlen], by rw [hlen]; exact hlm, fun x hx => r2 x (List.mem_of_mem_drop (List.mem_of_mem_take hx)), fun _ => ⟨_, rfl, fun j hj => ?_⟩⟩
        rw [hlen] at hj
        obtain ⟨v, q1, q2⟩ := m7 (off + j) 0 (by omega) m4
        refine ⟨v, ?_, ?_⟩
        · rw [adr, h1, Nat.mul_one]
          rw [h1] at q1
          simpa [World.cell?, m2] using q1
        · have : (List.take len (List.drop off es)).getD j [] = es.getD (off + j) [] := by
            simp [List.getD_eq_getElem?_getD, List.getElem?_take, List.getElem?_drop, hj]
          rw [this]; exact q2
  · cases hs
theorem copy_sound (h : SR P w0 X D R st a w) (hb : ∀ x, o.dst = some x → x < st.nt) (hn : After P w0 X D R st a w o site K r next) (hd : ∀ c, o.op ≠ .defer c)
    {t t' : TypeId} {id off len : Nat} {y : AV} {xv yv : Value} (hx : VR P D R w (.sl id off len) xv) (hy : VR P D R w y yv)
    (hr : ∀ v w', (Builtin.copy_ #[t, t'] o.type #[xv, yv]).run P w = .ok v w' → (execOp a.eval o).run P w = .ok (.value v) w')
    (he : copyV P st t id off len y K = some r) : o.wpIn (FW ro) n P a w next Q := by
  unfold copyV at he
  split at he <;> first | (cases he; done) | skip
  rename_i e e' es hu hm
  rw [srcK_eq] at he
  split at he <;> first | (cases he; done) | skip
  rename_i ys hs
  obtain ⟨hc, he2⟩ := cond_some he
  clear he
  simp only [Bool.and_eq_true] at hc
  obtain ⟨hee, h1, ho, hno, hf⟩ := hc
  obtain rfl := Nat.eq_of_beq_eq_true hee
  have h1 : P.cellsOf e = 1 := Nat.eq_of_beq_eq_true h1
  have hf := Nat.le_of_ble_eq_true hf
  obtain ⟨ad, sc, rfl, hyl, hyW, hys⟩ := srcOf_spec h hm h1 hs hy
  have hinf : (P.info? e).map (·.size) = some 1 := by
    unfold Program.cellsOf at h1
    cases hi : P.info? e with
    | none => rw [hi] at h1; simp at h1
    | some i => rw [hi] at h1; simpa using h1
  by_cases h0 : min len ys.length = 0
  · have hover : over off len ys es = es := by
      unfold over
      have : ys.take len = [] := by
        rw [List.take_eq_nil_iff]
        by_cases hy0 : ys = []
        · exact .inr hy0
        · exact .inl (by have := List.length_pos_iff.2 hy0; omega)
      rw [this, h0]; simp
    have hxv : ∃ xa xc, xv = .slice xa len xc := by
      cases hx with
      | sl0 => exact ⟨_, _, rfl⟩
      | sl => exact ⟨_, _, rfl⟩
    obtain ⟨xa, xc, rfl⟩ := hxv
    have hrun : (Builtin.copy_ #[t, t'] o.type #[.slice xa len xc, .slice ad ys.length sc]).run P w = .ok (goInt 0) w := by
      cases hq : P.info? e with
      | none => simp [hq] at hinf
      | some i =>
        have hn0 : ys.length.min len = 0 := by have : ys.length.min len = min ys.length len := rfl; omega
        cases xa <;> cases ad <;> simp [Builtin.copy_, run_underlying hu, Builtin.lenOf, Builtin.firstCells, sizeOf, typeInfo, hq, hn0, storeCells, loadCells, loadCellsFrom]
    refine wpIn_value hd (hr _ _ hrun) (hn D R ⟨_, some (id, _)⟩ _ _ ((h.same (blk := .row e (over off len ys es)) (by rw [hover]; exact hm)).put hb ?_) .refl he2)
    rw [h0]
    exact .i (by simp [IntKind.min, IntKind.signed, IntKind.bits]) (by simp [IntKind.max, IntKind.signed, IntKind.bits])
  · have hyne : ys ≠ [] := by rintro rfl; simp at h0
    have hne : es ≠ [] := by rintro rfl; simp at hf; omega
    obtain ⟨c, rfl, hcell⟩ := hys hyne
    have hrow := h.mem id
    rw [hm] at hrow
    obtain ⟨b, cells, ty, ⟨kc, m1, mk⟩, m2, m3, m4, m5, m6, m7⟩ := hrow hne
    have hxv : ∃ xc, xv = .slice (some ⟨b, off, none⟩) len xc := by
      cases hx with
      | sl0 => simp at h0
      | @sl _ _ _ b' sz c' kp hR hle hlm hcap hpo =>
        rw [hR] at m1
        obtain ⟨rfl, rfl, _⟩ : b' = b ∧ sz = P.cellsOf e ∧ kp = kc := by simpa using m1
        exact ⟨_, by rw [h1, Nat.mul_one]⟩
    obtain ⟨xc, rfl⟩ := hxv
    have hch : ∃ f : Nat → Value, ∀ j, j < ys.length → w.cell? (c.add j) = some (f j) ∧ VR P D R w ((ys.getD j []).getD 0 .u) (f j) :=
      ⟨fun j => if hj : j < ys.length then (hcell j hj).choose else undef, fun j hj => by simp only [hj, dif_pos]; exact (hcell j hj).choose_spec⟩
    obtain ⟨f, hfc⟩ := hch
    let nv := (List.range (min len ys.length)).map f
    have hnl : nv.length = min len ys.length := by simp [nv]
    have hng : ∀ k, k < nv.length → nv[k]? = some (f k) := fun k hk => by
      rw [hnl] at hk
      simp [nv, hk]
    have hone : ∀ v ∈ nv, v.oneCell' = true := by
      intro v hv
      obtain ⟨k, hk, rfl⟩ := List.mem_map.1 hv
      have hk : k < min len ys.length := by simpa using hk
      have hmem : ys.getD k [] ∈ ys := by simp [List.getD_eq_getElem?_getD, List.getElem?_eq_getElem (show k < ys.length by omega)]
      exact oneCell_of (noOth_cell hno (by rw [m3, h1]; omega)) (hyW _ hmem).2 (hfc k (by omega)).2
    have hrun := run_copy_row P w t t' o.type e b off len xc c ys.length sc cells ty nv hu hinf m2 (by rw [hnl]; exact Nat.min_comm _ _) (fun j v hj => by
      have hjl : j < nv.length := (List.getElem?_eq_some_iff.1 hj).1
      rw [hng j hjl] at hj
      obtain rfl : f j = v := by simpa using hj
      exact (hfc j (by omega)).1) (by rw [h1] at m5; omega) hone
    refine wpIn_value hd (hr _ _ hrun) (hn D R ⟨_, some (id, _)⟩ _ _ ((h.overlay hm h1 m1 m2 hne hf hyW hnl (fun k hk => ?_)).put hb ?_) .refl he2)
    · have := (hfc k (by omega)).2
      rw [List.getD_eq_getElem?_getD (l := nv), hng k hk]
      exact this
    · rw [hnl]
      exact .i (by simp [IntKind.min, IntKind.signed, IntKind.bits] <;> omega) (by simp [IntKind.max, IntKind.signed, IntKind.bits] <;> omega)
end Go.Ev

set_option linter.unusedVariables false
set_option linter.unusedSimpArgs false
namespace Go.Ev
open Go Go.RowKit

variable {P : Program} {w0 : Base} {X D : Nat → Nat → Prop} {R : Nat → Option (Nat × Nat × Nat)} {st : St} {a : Act} {w : World}
variable {ro : Option Nat} {n : Nat} {o : Oper} {next : Act → World → Prop} {Q : Exit → Act → World → Prop} {ρ : Type} {K : Eff → Option ρ} {r : ρ} {site : Nat} {S : Spec} {RO : Nat → Bool}

theorem app_at {l1 l2 : List AV} {v1 v2 : List Value} (hl : v1.length = l1.length) (h1 : ∀ k, k < l1.length → VR P D R w (l1.getD k .u) (v1.getD k undef)) (h2 : ∀ k, k < l2.length → VR P D R w (l2.getD k .u) (v2.getD k undef)) :
    ∀ k, k < (l1 ++ l2).length → VR P D R w ((l1 ++ l2).getD k .u) ((v1 ++ v2).getD k undef) := by
  intro k hk
  simp only [List.length_append] at hk
  by_cases h : k < l1.length
  · have := h1 k h
    simpa [List.getD_eq_getElem?_getD, List.getElem?_append_left h, List.getElem?_append_left (show k < v1.length by omega)] using this
  · have := h2 (k - l1.length) (by omega)
    simpa [List.getD_eq_getElem?_getD, List.getElem?_append_right (show l1.length ≤ k by omega), List.getElem?_append_right (show v1.length ≤ k by omega), hl] using this
theorem numOf_spec (h : SR P w0 X D R st a w) {d : Int} {y : Option Operand} {k : IntKind} {l : Int} (hl : numOf st d y = .i k l) : (y.map a.eval = none ∧ l = d) ∨ ∃ k, y.map a.eval = some (.int k l) := by
  cases y with
  | none => simp only [numOf, AV.i.injEq] at hl; exact .inl ⟨rfl, hl.2.symm⟩
  | some y =>
    have := h.val y
    simp only [numOf] at hl
    rw [hl] at this
    exact .inr ⟨k, by rw [Option.map_some, this.int_inv.1]⟩
theorem run_bounds {isSlice : Bool} {len cap : Nat} {lo hi : Option Value} {l q : Int} (hlo : (lo = none ∧ l = 0) ∨ ∃ k, lo = some (.int k l)) (hhi : (hi = none ∧ q = (len : Int)) ∨ ∃ k, hi = some (.int k q))
    (h0 : 0 ≤ l) (h1 : l ≤ q) (h2 : q ≤ (len : Int)) (hc : len ≤ cap) : (Instr.sliceBounds isSlice len cap lo hi none).run P w = .ok (l.toNat, q.toNat, cap) w := by
  have eq : (q.toNat : Int) = q := Int.toNat_of_nonneg (by omega)
  have hq0 : 0 ≤ q := by omega
  have hqc : q ≤ (cap : Int) := by omega
  rcases hlo with ⟨rfl, rfl⟩ | ⟨k, rfl⟩ <;> rcases hhi with ⟨rfl, rfl⟩ | ⟨k', rfl⟩ <;>
    simp [Instr.sliceBounds, Instr.sliceBound, asIntOf, h0, h1, hq0, hqc, eq]

theorem minmax_sound {mx : Bool} {c : Call} (h : SR P w0 X D R st a w) (hb : ∀ x, o.dst = some x → x < st.nt) (hn : After P w0 X D R st a w o site K r next) (hd : ∀ c, o.op ≠ .defer c)
    (hop : o.op = .call c) (hc : c.callee = .builtin (if mx then .max else .min))
    (hresb : ∀ b, c.callee = .builtin b → ∃ cs, (resolve a.eval c o.type).run P w = .ok { target := .builtin b c.argTypes o.type cs, args := c.args.map a.eval } w)
    (he : (match c.args.toList.map (val st) with
      | x :: r => match best (if mx then bmax else bmin) x r with
        | some v => K ⟨v, none⟩
        | none => none
      | [] => none) = some r) : o.wpIn (FW ro) n P a w next Q := by
  have hargs := args_at h c.args.toList
  split at he <;> first | (cases he; done) | skip
  rename_i x l hl
  split at he <;> first | (cases he; done) | skip
  rename_i v hbest
  have hlen : c.args.toList.length = l.length + 1 := by have := congrArg List.length hl; simpa using this
  match hcl : c.args.toList, hlen with
  | y :: ys, hlen =>
    rw [hcl] at hl hargs
    simp only [List.map_cons, List.cons.injEq] at hl
    obtain ⟨e1, e2⟩ := hl
    obtain ⟨u, g1, g2⟩ := best_sound (P := P) (D := D) (R := R) (w := w) (mx := mx) (lv := ys.map a.eval) hbest (e1 ▸ h.val y) (by simpa using hlen) (fun k hk => by
      have := hargs (k + 1) (by simp at hlen ⊢; omega)
      rw [← e2]
      simpa using this)
    refine op_value h hb hn hd (v' := u) ?_ g2 he
    obtain ⟨csb, hrb⟩ := hresb _ hc
    simp only [execOp, hop, Sem.run_bind, hrb, Result.andThen_ok, invoke]
    have ht : (c.args.map a.eval).toList = a.eval y :: ys.map a.eval := by simp [hcl]
    cases mx
    · simp only [Bool.false_eq_true, if_false] at g1 ⊢
      simp only [builtin, Builtin.min_, ht, Sem.run_bind, g1, Result.andThen_ok, Sem.run_pure]
    · simp only [if_true] at g1 ⊢
      simp only [builtin, Builtin.max_, ht, Sem.run_bind, g1, Result.andThen_ok, Sem.run_pure]

theorem grown_sound (h : SR P w0 X D R st a w) (hf : R site = none) (hb : ∀ x, o.dst = some x → x < st.nt) (hn : After P w0 X D R st a w o site K r next) (hd : ∀ c, o.op ≠ .defer c)
    {own : Bool} {e t t' : TypeId} {x y : AV} {xv yv : Value} (hu : P.underlying t = some (.slice e)) (hx : x = .nl ∨ x = .e0 true) (hxv : VR P D R w x xv) (hyv : VR P D R w y yv)
    (hr : ∀ v w', (Builtin.append_ #[t, t'] o.type #[xv, yv]).run P w = .ok v w' → (execOp a.eval o).run P w = .ok (.value v) w')
    (he : grown P site own e t t' x y K = some r) : o.wpIn (FW ro) n P a w next Q := by
  unfold grown at he
  split at he <;> first | (cases he; done) | skip
  rename_i e' es
  obtain ⟨hc, he2⟩ := cond_some he
  clear he
  simp only [Bool.and_eq_true] at hc
  obtain ⟨ht, hee, ho⟩ := hc
  obtain rfl := Nat.eq_of_beq_eq_true ht
  obtain rfl := Nat.eq_of_beq_eq_true hee
  cases hin : P.info? e with
  | none => rw [hin] at he2; cases he2
  | some i =>
    rw [hin] at he2
    obtain ⟨hz1, he3⟩ := cond_some he2
    obtain ⟨hz0, hzz⟩ := Bool.and_eq_true_iff.1 hz1
    obtain ⟨hby, he4⟩ := cond_some he3
    have hby : es.length * i.bytes ≤ 140737488355328 := Nat.le_of_ble_eq_true hby
    cases own with
    | false =>
      have key : ∃ xa, xv = .slice xa 0 0 := by
        rcases hx with rfl | rfl
        · cases hxv; exact ⟨_, rfl⟩
        · cases hxv with
          | @e0 _ xa c hc =>
            obtain rfl := hc rfl
            exact ⟨_, rfl⟩
      obtain ⟨xa, rfl⟩ := key
      obtain ⟨D', R', v', w', q1, q2, q3, q4⟩ := grow_nil h hf (ty := o.type) hu hin ho hz0 hzz hby hyv (xa := xa)
      exact wpIn_value hd (hr _ _ q1) (hn D' R' ⟨_, some (site, .fr e)⟩ _ _ (q2.put hb q3) q4 he4)
    | true =>
      have key : ∃ xa, xv = .slice xa 0 0 := by
        rcases hx with rfl | rfl
        · cases hxv; exact ⟨_, rfl⟩
        · cases hxv with
          | @e0 _ xa c hc =>
            obtain rfl := hc rfl
            exact ⟨_, rfl⟩
      obtain ⟨xa, rfl⟩ := key
      obtain ⟨D', R', v', w', q1, q2, q3, q4⟩ := own_nil h hf (ty := o.type) (xa := xa) hu hin ho hz0 hzz hby hyv
      exact wpIn_value hd (hr _ _ q1) (hn D' R' ⟨_, some (site, .row e es)⟩ _ _ (q2.put hb q3) q4 he4)

theorem slice_rs (h : SR P w0 X D R st a w) (hb : ∀ x, o.dst = some x → x < st.nt) (hn : After P w0 X D R st a w o site K r next) (hd : ∀ c, o.op ≠ .defer c) {t e : TypeId} {x : Operand} {lo hi : Option Operand} {es : List (List AV)} {l q : Int}
    (hop : o.op = .slice t x lo hi none) (hu : P.underlying t = some (.slice e)) (hz : 0 < P.cellsOf e) (hlo : (lo.map a.eval = none ∧ l = 0) ∨ ∃ k, lo.map a.eval = some (.int k l)) (hhi : (hi.map a.eval = none ∧ q = (es.length : Int)) ∨ ∃ k, hi.map a.eval = some (.int k q))
    (h0 : 0 ≤ l) (h1 : l ≤ q) (h2 : q ≤ (es.length : Int)) (hx : VR P D R w (.rs e es) (a.eval x)) (he2 : K ⟨.rs e ((es.take q.toNat).drop l.toNat), none⟩ = some r) : o.wpIn (FW ro) n P a w next Q := by
  generalize hax : a.eval x = xv at hx
  have main : ∀ (ad : Option Addr) (c : Nat), es.length ≤ c → (Instr.sliceAt t (.slice ad es.length c) (lo.map a.eval) (hi.map a.eval) none).run P w =
      .ok (.slice (if c = l.toNat then ad else ad.map (·.add (l.toNat * P.cellsOf e))) (q.toNat - l.toNat) (c - l.toNat)) w := by
    intro ad c hc
    simp only [Instr.sliceAt, Sem.run_bind, run_underlying' hu, Result.andThen_ok, Instr.slice]
    rw [run_bounds hlo hhi h0 h1 h2 hc]
    simp only [Result.andThen_ok, run_sizeOf' hz, Sem.run_pure]
  have hlen : ((es.take q.toNat).drop l.toNat).length = q.toNat - l.toNat := by simp; omega
  cases hx with
  | @rs0 _ ad c hadc =>
    have hq0 : q.toNat - l.toNat = 0 := by simp at h2; omega
    refine op_value h hb hn hd (v' := .slice (if c = l.toNat then ad else ad.map (·.add (l.toNat * P.cellsOf e))) 0 (c - l.toNat)) ?_ (by
      have : ((([] : List (List AV)).take q.toNat).drop l.toNat) = [] := by simp
      rw [this]; exact .rs0 fun h0 => by
        cases ad with
        | none => have := hadc rfl; omega
        | some ad => split at h0 <;> cases h0) he2
    have := main ad c (by simp)
    simp only [execOp, hop, Sem.run_bind, hax, Option.map_none]
    simp only [List.length_nil] at this
    rw [this, hq0]
    rfl
  | @rs _ _ b o' c f g1 gz g2 g3 g4 g5 g6 g7 =>
    refine op_value h hb hn hd (v' := .slice (if c = l.toNat then some ⟨b, o', none⟩ else (some ⟨b, o', none⟩ : Option Addr).map (·.add (l.toNat * P.cellsOf e))) (q.toNat - l.toNat) (c - l.toNat)) ?_ ?_ he2
    · simp only [execOp, hop, Sem.run_bind, hax, Option.map_none, main _ c g2]
      rfl
    · by_cases hemp : (es.take q.toNat).drop l.toNat = []
      · rw [hemp]
        have : q.toNat - l.toNat = 0 := by rw [← hlen, hemp]; rfl
        rw [this]
        exact .rs0 fun h0 => by split at h0 <;> cases h0
      · have hpos : 0 < q.toNat - l.toNat := by
          rw [← hlen]
          exact List.length_pos_iff.2 hemp
        have hne : ¬ c = l.toNat := by omega
        simp only [hne, if_false, Option.map_some, add_plain']
        rw [← hlen]
        obtain ⟨w1, w2, w3⟩ : es.length ≤ 9223372036854775807 ∧ (∀ x, x ∈ es → x.length = (cts P e).length) ∧ (∀ x, x ∈ es → ∀ j, j < x.length → WT P ((cts P e).getD j .oth) (x.getD j .u)) := by
          cases g5 with
          | sl a b c => exact ⟨a, b, c⟩
        have hsub : ∀ x, x ∈ (es.take q.toNat).drop l.toNat → x ∈ es := fun x hx => List.mem_of_mem_take (List.mem_of_mem_drop hx)
        have hget : ∀ i, i < q.toNat - l.toNat → ((es.take q.toNat).drop l.toNat).getD i [] = es.getD (l.toNat + i) [] := fun i hi => by
          simp [List.getD_eq_getElem?_getD, List.getElem?_take, show l.toNat + i < q.toNat by omega]
        refine .rs (f := fun i j => f (l.toNat + i) j) hemp gz (by rw [hlen]; omega) g3 (fun i j hi hj => by
            rw [hlen] at hi
            have := g4 (l.toNat + i) j (by omega) hj
            rw [Nat.add_mul] at this
            rw [show o' + l.toNat * P.cellsOf e + (i * P.cellsOf e + j) = o' + (l.toNat * P.cellsOf e + i * P.cellsOf e + j) by omega]
            exact this) (.sl (by rw [hlen]; omega) (fun x hx => w2 x (hsub x hx)) (fun x hx => w3 x (hsub x hx))) (fun i j hi hj => ?_) (fun i j hi hj => ?_)
        · rw [hlen] at hi
          have := g6 (l.toNat + i) j (by omega) hj
          rw [Nat.add_mul] at this
          rw [← this]
          congr 2
          omega
        · rw [hlen] at hi
          rw [hget i hi]
          exact g7 (l.toNat + i) j (by omega) hj
theorem one_of_fit {all : List CT} {v x : AV} {v' : Value} (h : fitCs all [v] = some [x]) (hv : VR P D R w v v') : WTs P all [x] ∧ VR P D R w x v' := by
  obtain ⟨g1, _, g3, _⟩ := fitCs_sound (P := P) (D := D) (R := R) (w := w) (cv := [v']) h rfl (fun k hk => by
    have : k = 0 := by simpa using hk
    subst this
    simpa using hv)
  exact ⟨g1, by simpa using g3 0 (by simp)⟩
theorem fitC_one {c : CT} {v x : AV} (h : fitC c v = some x) : cellsOf x = [x] := by
  unfold fitC at h
  split at h <;> first | (cases h; done) | (cases h; rfl) | (cases hk : (_ : Bool) <;> simp_all; done) | skip
  all_goals (obtain ⟨_, h⟩ := cond_some h; cases h; rfl)
theorem fitCs_one {all : List CT} {v x : AV} (h : fitCs all [v] = some [x]) : cellsOf x = [x] := by
  cases all with
  | nil => simp [fitCs] at h
  | cons c r =>
    simp only [fitCs] at h
    split at h <;> first | (cases h; done) | skip
    rename_i a' y' h1 h2
    simp only [Option.some.injEq, List.cons.injEq] at h
    rw [← h.1]
    exact fitC_one h1
theorem asT_sound {t : TypeId} {v x : AV} {v' : Value} (h : asT P t v = some x) (hv : VR P D R w v v') : TV P t x ∧ VR P D R w x v' := by
  unfold asT at h
  split at h <;> first | (cases h; done) | skip
  · rename_i cs hA
    split at h <;> first | (cases h; done) | skip
    rename_i cs' hf
    cases h
    obtain ⟨cv, rfl, q1, q2⟩ := hv.agg_inv
    obtain ⟨g1, g2, g3, _⟩ := fitCs_sound (P := P) (D := D) (R := R) (w := w) (cv := cv.toList) hf (by simpa using q1) (fun k hk => by
      have := q2 k hk
      simpa [Array.getD_eq_getD_getElem?, List.getD_eq_getElem?_getD] using this)
    refine ⟨⟨g1, fun _ => ⟨_, rfl⟩, fun h => (by rw [hA] at h; cases h)⟩, .agg (by rw [g2]; exact q1) fun k hk => ?_⟩
    have := g3 k hk
    simpa [Array.getD_eq_getD_getElem?, List.getD_eq_getElem?_getD] using this
  · rename_i hA _
    split at h <;> first | (cases h; done) | skip
    rename_i x' hf
    cases h
    obtain ⟨g1, g2⟩ := one_of_fit hf hv
    have hc := fitCs_one hf
    exact ⟨⟨by rw [hc]; exact g1, fun h => (by rw [hA] at h; cases h), fun _ => hc⟩, g2⟩
theorem zeroT_sound {t : TypeId} {x : AV} (h : zeroT P t = some x) : ∃ i z, P.info? t = some i ∧ i.zero = some z ∧ TV P t x ∧ VR P D R w x z := by
  unfold zeroT at h
  have info : ∀ {z : Value}, (P.info? t).bind (·.zero) = some z → ∃ i, P.info? t = some i ∧ i.zero = some z := fun {z} hz => by
    cases hi : P.info? t with
    | none => simp [hi] at hz
    | some i => exact ⟨i, rfl, by simpa [hi] using hz⟩
  split at h <;> first | (cases h; done) | skip
  · rename_i cv hA hz
    obtain ⟨i, hi1, hi2⟩ := info hz
    split at h <;> first | (cases h; done) | skip
    rename_i cs hf
    cases h
    obtain ⟨g1, g2, g3, _⟩ := fitCs_sound (P := P) (D := D) (R := R) (w := w) (cv := cv.toList) hf (by simp) (fun k hk => by
      simp only [List.length_map] at hk
      rw [getD_map _ _ _ Go.undef _ hk]
      exact VR_ofC _)
    refine ⟨i, _, hi1, hi2, ⟨g1, fun _ => ⟨_, rfl⟩, fun h => (by rw [hA] at h; cases h)⟩, .agg (by rw [g2]; simp) fun k hk => ?_⟩
    have := g3 k hk
    simpa [Array.getD_eq_getD_getElem?, List.getD_eq_getElem?_getD] using this
  · rename_i z _ hA hz
    obtain ⟨i, hi1, hi2⟩ := info hz
    split at h <;> first | (cases h; done) | skip
    rename_i x' hf
    cases h
    obtain ⟨g1, g2⟩ := one_of_fit (P := P) (D := D) (R := R) (w := w) hf (VR_ofC z)
    have hc := fitCs_one hf
    exact ⟨i, z, hi1, hi2, ⟨by rw [hc]; exact g1, fun h => (by rw [hA] at h; cases h), fun _ => hc⟩, g2⟩
theorem projT_TV {t : TypeId} {x : AV} (h : TV P t x) : projT P t x = x := by
  unfold projT
  cases hA : isAgg P t with
  | true =>
    obtain ⟨cs, rfl⟩ := h.a hA
    have hw : WTs P (cts P t) cs := h.w
    simp only [cond_true, AV.agg.injEq, cellsOf]
    apply List.ext_getElem
    · rw [projs_length, hw.1]
    · intro j h1 h2
      have h3 := projs_getD (cts P t) cs 0 j (by rw [← hw.1]; exact h2)
      rw [Nat.zero_add, proj_WT (hw.2 j h2)] at h3
      simpa [List.getD_eq_getElem?_getD, h1, h2] using h3
  | false =>
    have hw := h.w
    rw [h.n hA] at hw
    have := hw.2 0 (by simp)
    simp only [cond_false]
    have e : (cts P t).headD .oth = (cts P t).getD 0 .oth := by cases (cts P t) <;> simp
    rw [e]
    exact proj_WT (by simpa using this)
theorem plain_TV {t : TypeId} (hk : keyT P t = true) {x : AV} (h : TV P t x) : plain x = true := by
  have pc : ∀ {c : CT} {x : AV}, WT P c x → (∃ k, c = .int k) ∨ c = .bool ∨ c = .str → plain x = true := fun hW hc => by
    cases hW with
    | int h1 h2 => simp [plain, h1, h2]
    | bool => rfl
    | str h1 => simp [plain, h1]
    | sl => simp at hc
    | oth => simp at hc
  have flat : ∀ {t : TypeId} {c : CT}, flatT P t = true → ctsEq [c] (cts P t) = true → (∃ k, c = .int k) ∨ c = .bool ∨ c = .str := fun hf hc => by
    obtain ⟨c', d, h1, _, _, h2⟩ := flatT_ct hf
    rw [h1] at hc
    have := ctsEq_eq hc
    simp only [List.cons.injEq, and_true] at this
    rw [this]
    rcases h2 with ⟨k, h, _⟩ | ⟨h, _⟩ | ⟨h, _⟩
    · exact .inl ⟨k, h⟩
    · exact .inr (.inl h)
    · exact .inr (.inr h)
  have one : flatT P t = true → plain x = true := fun hf => by
    obtain ⟨c, d, h1, _, hA, h2⟩ := flatT_ct hf
    have hw := h.w
    rw [h.n hA, h1] at hw
    refine pc (by simpa using hw.2 0 (by simp)) ?_
    rcases h2 with ⟨k, h, _⟩ | ⟨h, _⟩ | ⟨h, _⟩
    · exact .inl ⟨k, h⟩
    · exact .inr (.inl h)
    · exact .inr (.inr h)
  have all : ∀ {cs : List AV}, WTs P (cts P t) cs → (∀ i, i < cs.length → (∃ k, (cts P t).getD i .oth = .int k) ∨ (cts P t).getD i .oth = .bool ∨ (cts P t).getD i .oth = .str) → plainL cs = true := fun {cs} hw hc => by
    have : ∀ (l : List AV), (∀ i, i < l.length → plain (l.getD i .u) = true) → plainL l = true := by
      intro l
      induction l with
      | nil => intro _; rfl
      | cons a l ih =>
        intro hl
        simp only [plainL, Bool.and_eq_true]
        exact ⟨by simpa using hl 0 (by simp), ih fun i hi => by simpa using hl (i + 1) (by simpa using hi)⟩
    exact this cs fun i hi => pc (hw.2 i hi) (hc i hi)
  unfold keyT at hk
  cases hu : P.underlying t with
  | none => simp [hu] at hk
  | some ds =>
    rw [hu] at hk
    cases ds <;> simp only at hk <;> first | (cases hk; done) | skip
    case bool => exact one (by simp [flatT, hu])
    case int k => exact one (by simp [flatT, hu])
    case string => exact one (by simp [flatT, hu])
    case array m e =>
      simp only [Bool.and_eq_true] at hk
      obtain ⟨g1, g2, g3, g4, g5⟩ := hk
      have hA : isAgg P t = true := by simp [isAgg, hu]
      obtain ⟨xs, rfl⟩ := h.a hA
      have hw : WTs P (cts P t) xs := h.w
      have g2 := Nat.eq_of_beq_eq_true g2
      refine all hw fun i hi => ?_
      have h0 := List.all_eq_true.1 g5 i (by have := hw.1; simp; omega)
      obtain ⟨c, d, h1, _⟩ := flatT_ct g3
      rw [h1] at h0
      obtain ⟨g6, _⟩ := ctsAt_one h0
      rw [g6]
      exact flat g3 (by rw [h1]; simp [ctsEq, ctEq]; cases c <;> simp [ctEq])
    case struct fs =>
      simp only [Bool.and_eq_true] at hk
      obtain ⟨g1, g2, g3⟩ := hk
      have hA : isAgg P t = true := by simp [isAgg, hu]
      obtain ⟨xs, rfl⟩ := h.a hA
      have hw : WTs P (cts P t) xs := h.w
      have g2 := Nat.eq_of_beq_eq_true g2
      refine all hw fun i hi => ?_
      have hif : i < fs.toList.length := by have := hw.1; simp; omega
      have h0 := List.all_eq_true.1 g3 (fs.toList[i], i) (by rw [List.mem_zipIdx_iff_getElem?]; simp [hif])
      simp only [Bool.and_eq_true] at h0
      obtain ⟨c, d, h1, _⟩ := flatT_ct h0.1
      have h2 := h0.2.2.2
      rw [h1] at h2
      obtain ⟨g6, _⟩ := ctsAt_one h2
      rw [g6]
      exact flat h0.1 (by rw [h1]; simp [ctsEq, ctEq]; cases c <;> simp [ctEq])
theorem toV_plain {x : AV} {v : Value} (hp : plain x = true) (hv : VR P D R w x v) : v = toV x := VR_plain_all.1 x hp v hv

theorem evOp_sound (hs : SpecOK P S) (h : SR P w0 X D R st a w) (hf : R site = none) (hb : ∀ x, o.dst = some x → x < st.nt) (he : evOp P S RO site o st K = some r)
    (hn : After P w0 X D R st a w o site K r next) : o.wpIn (FW ro) n P a w next Q := by
  unfold evOp at he
  have hd : ∀ c, o.op ≠ .defer c := by intro c hc; simp [hc] at he
  cases hop : o.op <;> simp only [hop] at he <;> try (cases he; done)
  case move x => exact op_value h hb hn hd (by simp [execOp, hop]) (h.val x) he
  case assign x => exact op_value h hb hn hd (by simp [execOp, hop]) (h.val x) he
  case pick c x y =>
    have hc := h.val c
    have hx := h.val x
    have hy := h.val y
    generalize val st c = vc at he hc
    generalize val st x = vx at he hx
    generalize val st y = vy at he hy
    split at he
    · rename_i t
      have ec := hc.bool_inv
      have hrun : (execOp a.eval o).run P w = .ok (.value (if t then a.eval x else a.eval y)) w := by simp [execOp, hop, ec, run_asBool]
      split at he
      · rename_i p q
        have e1 := hx.bool_inv
        have e2 := hy.bool_inv
        refine op_value h hb hn hd hrun ?_ he
        cases t
        · simpa [e2] using VR.b
        · simpa [e1] using VR.b
      · cases t
        · exact op_value h hb hn hd (by simpa using hrun) hy he
        · exact op_value h hb hn hd (by simpa using hrun) hx he
    · cases he
  case unOp op t x =>
    have hx := h.val x
    cases op <;> simp only at he <;> first | (cases he; done) | skip
    all_goals (split at he <;> first | (cases he; done) | skip)
    · rename_i hv
      rw [hv] at hx
      obtain ⟨e, _⟩ := hx.int_inv
      refine op_value h hb hn hd (v' := .int _ (IntKind.wrap _ (0 - _))) ?_ (.i (inR_wrap _ _).1 (inR_wrap _ _).2) he
      simp only [execOp, hop, e]
      simp [Op.unary, Op.intArith]
    · rename_i hv
      rw [hv] at hx
      have e := hx.bool_inv
      exact op_value h hb hn hd (by simp only [execOp, hop, e]; simp [Op.unary]) .b he
  case binOp op t x y yt =>
    obtain ⟨v, v', h1, h2, h3⟩ := bin_sound (ox := x) (oy := y) (h.val x) (h.val y) he
    refine op_value h hb hn hd (v' := v') ?_ h2 h3
    simp only [execOp, hop, Sem.run_bind, Sem.run_pure] at h1 ⊢
    rw [h1]
    rfl
  case convert src dst x =>
    have hx := h.val x
    split at he <;> first | (cases he; done) | skip
    · rename_i hu1 hu2 hv
      rw [hv] at hx
      obtain ⟨e, _⟩ := hx.int_inv
      refine op_value h hb hn hd (v' := .int _ (IntKind.wrap _ _)) ?_ (.i (inR_wrap _ _).1 (inR_wrap _ _).2) he
      simp only [execOp, hop, e]
      simp [Go.convert, run_underlying' hu1, run_underlying' hu2, Conv.intToInt]
    · rename_i hu1 hu2 hv
      rw [hv] at hx
      obtain ⟨e, hsz⟩ := hx.str_inv
      refine op_value h hb hn hd ?_ (.s hsz) he
      simp only [execOp, hop, e]
      simp [Go.convert, run_underlying' hu1, run_underlying' hu2]
  case extract x j =>
    have hx := h.val x
    split at he <;> first | (cases he; done) | skip
    rename_i vs hv
    rw [hv] at hx
    split at he <;> first | (cases he; done) | skip
    rename_i v hj
    generalize hax : a.eval x = ax at hx
    cases hx with
    | @tup cs cv h1 h2 =>
      have hlt : j < vs.length := (List.getElem?_eq_some_iff.1 hj).1
      have hlt' : j < cv.size := by omega
      refine op_value h hb hn hd (v' := cv[j]) ?_ ?_ he
      · simp only [execOp, hop, hax]
        simp [Instr.extract, hlt']
      · have := h2 j hlt
        simpa [List.getD_eq_getElem?_getD, Array.getD_eq_getD_getElem?, hj, hlt'] using this
  case field t x f =>
    have hx := h.val x
    split at he <;> first | (cases he; done) | skip
    rename_i fs cs hu hv
    rw [hv] at hx
    split at he <;> first | (cases he; done) | skip
    rename_i fd hfd
    split at he <;> first | (cases he; done) | skip
    rename_i v hp
    obtain ⟨cv, e, h1, h2⟩ := hx.agg_inv
    obtain ⟨u, g1, g2⟩ := partV_sound h1 h2 hp
    refine op_value h hb hn hd (v' := u) ?_ g2 he
    simp only [execOp, hop, e]
    simp [Instr.field, run_underlying' hu, hfd, asAgg, g1]
  case build t parts =>
    split at he <;> first | (cases he; done) | skip
    · rename_i fs z hu hz
      split at he <;> first | (cases he; done) | skip
      rename_i cs hfill
      split at he <;> first | (cases he; done) | skip
      rename_i cs' hfit
      obtain ⟨hinfo, he⟩ := cond_some he
      obtain ⟨i, zv, z1, z2, z3, z4, z5⟩ := zeroK_sound (P := P) (D := D) (R := R) (w := w) hz
      obtain ⟨cv, g1, g2, g3⟩ := fill_sound (P := P) (D := D) (R := R) (w := w) (pc := fun i => (fs[i]?).map fun f => (f.offset, P.cellsOf f.type)) (pv := parts.toList.map fun p => (p.1, a.eval p.2))
        (fun i x hx => by
          simp only [place] at hx
          cases hfi : fs[i]? with
          | none => simp [hfi] at hx
          | some f => simp [hfi] at hx; subst hx; simp)
        hfill z4 z5 (by simp) (fun k hk => by
          simp only [List.length_map] at hk
          rw [getD_map _ _ _ (0, .const Go.undef) _ hk, getD_map _ _ _ (0, .const Go.undef) _ hk]
          exact ⟨rfl, h.val _⟩)
      obtain ⟨f2, f3⟩ := fitK_sound (P := P) (D := D) (R := R) (w := w) (cv := cv.toList) hfit (by simpa using g2) (fun k hk => by
        have := g3 k hk
        simpa [Array.getD_eq_getD_getElem?, List.getD_eq_getElem?_getD] using this)
      refine op_value h hb hn hd (v' := .agg cv) ?_ (.agg (by rw [f2]; exact g2) (fun k hk => by
        have := f3 k hk
        simpa [Array.getD_eq_getD_getElem?, List.getD_eq_getElem?_getD] using this)) he
      have hm : (fs.mapM fun f => (do pure (f.offset, ← sizeOf f.type) : Sem (Nat × Nat))).run P w = .ok (fs.map fun f => (f.offset, P.cellsOf f.type)) w := by
        rw [Array.mapM_eq_mapM_toList]
        have : ∀ l : List Field, l.all (fun f => (P.info? f.type).isSome) = true → (l.mapM fun f => (do pure (f.offset, ← sizeOf f.type) : Sem (Nat × Nat))).run P w = .ok (l.map fun f => (f.offset, P.cellsOf f.type)) w := by
          intro l
          induction l with
          | nil => intro _; simp
          | cons f l ih =>
            intro hl
            simp only [List.all_cons, Bool.and_eq_true] at hl
            obtain ⟨i, hi⟩ := Option.isSome_iff_exists.1 hl.1
            have e1 : (sizeOf f.type).run P w = .ok (P.cellsOf f.type) w := by simp [sizeOf, typeInfo, hi, Program.cellsOf]
            simp only [List.mapM_cons, Sem.run_bind, e1, Result.andThen_ok, Sem.run_pure, ih hl.2, List.map_cons]
        simp only [Sem.run_map, this _ hinfo, Result.andThen_ok]
        congr 1
        apply Array.ext'
        simp
      have hpl : (fun (i : Nat) => (fs.map fun f => (f.offset, P.cellsOf f.type))[i]?) = fun (i : Nat) => (fs[i]?).map fun (f : Field) => (f.offset, P.cellsOf f.type) := by
        funext i; simp
      simp only [execOp, hop, Sem.run_bind, Sem.run_pure]
      simp only [Instr.build, Sem.run_bind, zeroValue, typeInfo, run_program, Result.andThen_ok, z1, z2, Sem.run_pure, run_underlying' hu, hm]
      have : (parts.map fun x => match x with | (i, x) => (i, a.eval x)).toList = parts.toList.map fun p => (p.1, a.eval p.2) := by simp
      rw [this, hpl, g1]
      simp
    · rename_i m e z hu hz
      split at he <;> first | (cases he; done) | skip
      rename_i cs hfill
      split at he <;> first | (cases he; done) | skip
      rename_i cs' hfit
      obtain ⟨hinfo, he⟩ := cond_some he
      obtain ⟨i, zv, z1, z2, z3, z4, z5⟩ := zeroK_sound (P := P) (D := D) (R := R) (w := w) hz
      obtain ⟨cv, g1, g2, g3⟩ := fill_sound (P := P) (D := D) (R := R) (w := w) (pc := fun i => some (i * P.cellsOf e, P.cellsOf e)) (pv := parts.toList.map fun p => (p.1, a.eval p.2))
        (fun i x hx => by simp only [Option.some.injEq] at hx; subst hx; rfl)
        hfill z4 z5 (by simp) (fun k hk => by
          simp only [List.length_map] at hk
          rw [getD_map _ _ _ (0, .const Go.undef) _ hk, getD_map _ _ _ (0, .const Go.undef) _ hk]
          exact ⟨rfl, h.val _⟩)
      obtain ⟨f1, f2, f3, f4⟩ := fitCs_sound (P := P) (D := D) (R := R) (w := w) (cv := cv.toList) hfit (by simpa using g2) (fun k hk => by
        have := g3 k hk
        simpa [Array.getD_eq_getD_getElem?, List.getD_eq_getElem?_getD] using this)
      refine op_value h hb hn hd (v' := .agg cv) ?_ (.agg (by rw [f2]; exact g2) (fun k hk => by
        have := f3 k hk
        simpa [Array.getD_eq_getD_getElem?, List.getD_eq_getElem?_getD] using this)) he
      obtain ⟨ie, hie⟩ := Option.isSome_iff_exists.1 hinfo
      have e1 : (sizeOf e).run P w = .ok (P.cellsOf e) w := by simp [sizeOf, typeInfo, hie, Program.cellsOf]
      simp only [execOp, hop, Sem.run_bind, Sem.run_pure]
      simp only [Instr.build, Sem.run_bind, zeroValue, typeInfo, run_program, Result.andThen_ok, z1, z2, Sem.run_pure, run_underlying' hu, e1]
      have : (parts.map fun x => match x with | (i, x) => (i, a.eval x)).toList = parts.toList.map fun p => (p.1, a.eval p.2) := by simp
      rw [this, g1]
      simp
  case fieldAddr t x f =>
    have hx := h.val x
    split at he <;> first | (cases he; done) | skip
    rename_i fs hu
    generalize val st x = ax at he hx
    split at he <;> first | (cases he; done) | skip
    · rename_i fd id i j hfd
      cases hz : Nat.beq (P.cellsOf fd.type) 0 with
      | true => rw [hz] at he; cases he
      | false =>
        rw [hz] at he
        have hz' : 0 < P.cellsOf fd.type := by
          rcases Nat.eq_zero_or_pos (P.cellsOf fd.type) with h | h
          · rw [h] at hz; cases hz
          · exact h
        generalize hax : a.eval x = xv at hx
        cases hx with
        | @p _ _ _ b sz kp hR =>
          refine op_value h hb hn hd ?_ (.p (i := i) (j := j + fd.offset) hR) he
          simp only [execOp, hop, hax]
          simp [Instr.fieldAt, run_underlying' hu, hfd, Instr.sureAddr, run_fieldPlace hz', Nat.add_assoc]
    · rename_i fd all cs j hfd
      cases hz : Nat.beq (P.cellsOf fd.type) 0 with
      | true => rw [hz] at he; cases he
      | false =>
        rw [hz] at he
        have hz' : 0 < P.cellsOf fd.type := by
          rcases Nat.eq_zero_or_pos (P.cellsOf fd.type) with h | h
          · rw [h] at hz; cases hz
          · exact h
        generalize hax : a.eval x = xv at hx
        cases hx with
        | @rp _ _ _ b o' f' g1 g2 g3 g4 g5 =>
          refine op_value h hb hn hd ?_ (.rp (j := j + fd.offset) g1 g2 g3 g4 g5) he
          simp only [execOp, hop, hax]
          simp [Instr.fieldAt, run_underlying' hu, hfd, Instr.sureAddr, run_fieldPlace hz', Nat.add_assoc]
  case indexAddr t x ix =>
    have hx := h.val x
    have hi := h.val ix
    split at he <;> first | (cases he; done) | skip
    · rename_i e e' es k q hu hv1 hv2
      rw [hv1] at hx; rw [hv2] at hi
      obtain ⟨hc, he2⟩ := cond_some he
      simp only [Bool.and_eq_true] at hc
      have := Nat.eq_of_beq_eq_true hc.1
      subst this
      obtain ⟨b1, b2, b3⟩ := inb_spec hc.2
      obtain ⟨ei, _⟩ := hi.int_inv
      obtain ⟨b, o', c, e1, hz, hv⟩ := hx.rs_row b3
      refine op_value h hb hn hd ?_ hv he2
      simp only [execOp, hop, e1, ei, Sem.run_bind, run_indexAt_slice hu b1 b2 hz, Result.andThen_ok, add_plain', Sem.run_pure]
    · rename_i e id off len k q hu hv1 hv2
      rw [hv1] at hx; rw [hv2] at hi
      obtain ⟨ei, _⟩ := hi.int_inv
      split at he <;> first | (cases he; done) | skip
      rename_i e' es hm
      obtain ⟨hc, he2⟩ := cond_some he
      simp only [Bool.and_eq_true] at hc
      have := Nat.eq_of_beq_eq_true hc.1
      subst this
      obtain ⟨b1, b2, b3⟩ := inb_spec hc.2.1
      generalize hax : a.eval x = xv at hx
      cases hx with
      | sl0 => simp at b2; omega
      | @sl _ _ _ b sz c kp hR hle _ hcap hpo =>
        have hrow := h.mem id
        rw [hm] at hrow
        have hne : es ≠ [] := by
          intro e0
          have := hc.2.2
          rw [e0] at this
          simp [Nat.blt_eq] at this
        obtain ⟨b', cells, ty, ⟨kc, m1, mk⟩, m2, m3, m4, _⟩ := hrow hne
        obtain ⟨rfl, rfl, _⟩ : b = b' ∧ sz = P.cellsOf e ∧ kp = kc := by rw [hR] at m1; simpa using m1
        refine op_value h hb hn hd (v' := .pointer (some ⟨b, (off + q.toNat) * P.cellsOf e + 0, none⟩)) ?_ (.p hR) he2
        simp only [execOp, hop, hax, ei, Sem.run_bind, run_indexAt_slice hu b1 b2 m4, Result.andThen_ok, add_plain', Sem.run_pure, Nat.add_mul, Nat.add_zero]
    · rename_i e id e' es k q hu hv1 hv2
      rw [hv1] at hx; rw [hv2] at hi
      obtain ⟨hc, he2⟩ := cond_some he
      simp only [Bool.and_eq_true] at hc
      have := Nat.eq_of_beq_eq_true hc.1
      subst this
      obtain ⟨b1, b2, b3⟩ := inb_spec hc.2
      obtain ⟨ei, _⟩ := hi.int_inv
      obtain ⟨b, o', c, e1, hz, hv⟩ := hx.gv_rs.rs_row b3
      refine op_value h hb hn hd ?_ hv he2
      simp only [execOp, hop, e1, ei, Sem.run_bind, run_indexAt_slice hu b1 b2 hz, Result.andThen_ok, add_plain', Sem.run_pure]
    · rename_i e id i j len k q hu hv1 hv2
      rw [hv1] at hx; rw [hv2] at hi
      obtain ⟨hc, he2⟩ := cond_some he
      simp only [Bool.and_eq_true] at hc
      have hz : 0 < P.cellsOf e := by simpa [Nat.blt_eq] using hc.1
      obtain ⟨b1, b2, b3⟩ := inb_spec hc.2
      obtain ⟨ei, _⟩ := hi.int_inv
      generalize hax : a.eval x = xv at hx
      cases hx with
      | @sa _ _ _ _ b sz c kp hR hle _ =>
        refine op_value h hb hn hd (v' := .pointer (some ⟨b, i * sz + (j + q.toNat * P.cellsOf e), none⟩)) ?_ (.p hR) he2
        simp only [execOp, hop, hax, ei, Sem.run_bind, run_indexAt_slice hu b1 b2 hz, Result.andThen_ok, add_plain', Sem.run_pure, Nat.add_assoc]
    · rename_i len e id i j k q hu hv1 hv2
      rw [hv1] at hx; rw [hv2] at hi
      obtain ⟨ei, _⟩ := hi.int_inv
      obtain ⟨hc, he⟩ := cond_some he
      simp only [Bool.and_eq_true] at hc
      have hz : 0 < P.cellsOf e := by simpa [Nat.blt_eq] using hc.1
      obtain ⟨b1, b2, b3⟩ := inb_spec hc.2
      generalize hax : a.eval x = xv at hx
      cases hx with
      | @p _ _ _ b sz kp hR =>
        refine op_value h hb hn hd (v' := .pointer (some ⟨b, i * sz + (j + q.toNat * P.cellsOf e), none⟩)) ?_ (.p hR) he
        simp only [execOp, hop, hax, ei]
        simp [Instr.indexAt, asIntOf, run_underlying' hu, Instr.sureAddr, b1, b2, run_sizeOf' hz, add_plain', Nat.add_assoc]
    · rename_i len e all cs j k q hu hv1 hv2
      rw [hv1] at hx; rw [hv2] at hi
      obtain ⟨ei, _⟩ := hi.int_inv
      obtain ⟨hc, he⟩ := cond_some he
      simp only [Bool.and_eq_true] at hc
      have hz : 0 < P.cellsOf e := by simpa [Nat.blt_eq] using hc.1
      obtain ⟨b1, b2, b3⟩ := inb_spec hc.2
      generalize hax : a.eval x = xv at hx
      cases hx with
      | @rp _ _ _ b o' f' g1 g2 g3 g4 g5 =>
        refine op_value h hb hn hd (v' := .pointer (some ⟨b, o' + (j + q.toNat * P.cellsOf e), none⟩)) ?_ (.rp g1 g2 g3 g4 g5) he
        simp only [execOp, hop, hax, ei]
        simp [Instr.indexAt, asIntOf, run_underlying' hu, Instr.sureAddr, b1, b2, run_sizeOf' hz, add_plain', Nat.add_assoc]
  case load t x =>
    obtain ⟨v, u, h1, h2, h3⟩ := look_sound h (h.val x) he
    refine op_value h hb hn hd (v' := u) ?_ h2 h3
    simp only [execOp, hop, Sem.run_bind, h1, Result.andThen_ok, Sem.run_pure]
  case nilCheck x =>
    have hx := h.val x
    generalize hax : a.eval x = xv at hx
    split at he <;> first | (cases he; done) | skip
    · rename_i hv
      rw [hv] at hx
      cases hx with
      | p hR => exact op_value h hb hn hd (by simp only [execOp, hop, hax]; simp) (.p hR) he
    · rename_i hv
      rw [hv] at hx
      cases hx with
      | rp g1 g2 g3 g4 g5 => exact op_value h hb hn hd (by simp only [execOp, hop, hax]; simp) (.rp g1 g2 g3 g4 g5) he
  case index t x ix =>
    have hx := h.val x
    have hi := h.val ix
    split at he <;> first | (cases he; done) | skip
    rotate_left
    · rename_i len e cs k q hu hv1 hv2
      rw [hv1] at hx; rw [hv2] at hi
      obtain ⟨ei, _⟩ := hi.int_inv
      obtain ⟨cv, ex, c1, c2⟩ := hx.agg_inv
      have fin : ∀ {v : AV} {d : TypeDesc}, P.underlying e = some d → isAgg P e = false → P.cellsOf e = 1 → inb q len = true → inb q cs.length = true → v = cs.getD q.toNat .u → K ⟨v, none⟩ = some r → o.wpIn (FW ro) n P a w next Q := by
        intro v d hue hA h1 g1 g2 hv he
        obtain ⟨b1, b2, _⟩ := inb_spec g1
        obtain ⟨_, _, b3⟩ := inb_spec g2
        have hlt : q.toNat < cv.size := by omega
        refine op_value h hb hn hd (v' := cv[q.toNat]) ?_ ?_ he
        · have hs : (sizeOf e).run P w = .ok 1 w := by rw [run_sizeOf' (by omega)]; rw [h1]
          simp only [execOp, hop, ex, ei]
          simp [Instr.index, asIntOf, run_underlying' hu, b1, b2, hs, part, run_isAgg' hue, hA, hlt]
        · rw [hv]
          have := c2 q.toNat b3
          simpa [Array.getD_eq_getD_getElem?, hlt] using this
      split at he <;> first | (cases he; done) | skip
      · rename_i k' hue
        obtain ⟨hc, he⟩ := cond_some he
        simp only [Bool.and_eq_true] at hc
        obtain ⟨h1, h2, h3, h4⟩ := hc
        refine fin hue (by simp [isAgg, hue]) (Nat.eq_of_beq_eq_true h1) h3 h4 ?_ he
        obtain ⟨_, _, b3⟩ := inb_spec h4
        have := List.all_eq_true.1 h2 (cs[q.toNat]) (List.getElem_mem b3)
        simp only [List.getD_eq_getElem?_getD, List.getElem?_eq_getElem b3, Option.getD_some]
        split at this
        · rename_i k2 m hm
          rw [hm, of_decide_eq_true this]; rfl
        · cases this
      · rename_i hue
        obtain ⟨hc, he⟩ := cond_some he
        simp only [Bool.and_eq_true] at hc
        obtain ⟨h1, h2, h3, h4⟩ := hc
        refine fin hue (by simp [isAgg, hue]) (Nat.eq_of_beq_eq_true h1) h3 h4 ?_ he
        obtain ⟨_, _, b3⟩ := inb_spec h4
        have := List.all_eq_true.1 h2 (cs[q.toNat]) (List.getElem_mem b3)
        simp only [List.getD_eq_getElem?_getD, List.getElem?_eq_getElem b3, Option.getD_some]
        split at this
        · rename_i m hm
          rw [hm]; rfl
        · cases this
    rename_i s k q hu hv1 hv2
    rw [hv1] at hx; rw [hv2] at hi
    obtain ⟨ei, _⟩ := hi.int_inv
    obtain ⟨ex, _⟩ := hx.str_inv
    obtain ⟨hc, he⟩ := cond_some he
    obtain ⟨b1, b2, b3⟩ := inb_spec hc
    refine op_value h hb hn hd (v' := .int .u8 ((s.data.toList.getD q.toNat 0).toNat : Int)) ?_ (.i ?_ ?_) he
    · simp only [execOp, hop, ex, ei]
      have : s[q.toNat]? = some (s.data.toList.getD q.toNat 0) := by
        have hlt : q.toNat < s.data.size := b3
        simp [getElem?_pos, b3, List.getD_eq_getElem?_getD, hlt]
        rfl
      simp [Instr.index, asIntOf, run_underlying' hu, b1, this]
    · simp [IntKind.min, IntKind.signed]
    · have := (s.data.toList.getD q.toNat 0).toNat_lt
      simp [IntKind.max, IntKind.signed, IntKind.bits] at this ⊢
      omega
  case makeSlice t ln cp =>
    have hl := h.val ln
    have hc := h.val cp
    split at he <;> first | (cases he; done) | skip
    rename_i e m m' hu hv1 hv2
    rw [hv1] at hl; rw [hv2] at hc
    obtain ⟨el, _⟩ := hl.int_inv
    obtain ⟨ec, _⟩ := hc.int_inv
    split at he <;> first | (cases he; done) | skip
    rename_i z i hz hi
    obtain ⟨hg, he2⟩ := cond_some he
    simp only [Bool.and_eq_true, decide_eq_true_eq] at hg
    obtain ⟨ho, rfl, ⟨h0, hby⟩, hmx⟩ := hg
    obtain ⟨h1, h2, _⟩ := okT_spec ho
    obtain ⟨i', zv, z1, z2, z3, z4, z5⟩ := zeroOf_sound (P := P) (D := D) (R := R) (w := w) hz
    obtain rfl : i' = i := by rw [hi] at z1; exact (Option.some.inj z1).symm
    have hzl : z.length = P.cellsOf e := by rw [z3.1, h1]
    have hzs : zv.cells.size = P.cellsOf e := by rw [z4, hzl]
    have hidx : ∀ i j, i < m.toNat → j < P.cellsOf e → i * P.cellsOf e + j < m.toNat * P.cellsOf e := fun i j hi hj => idx_lt hi hj
    have hrep : ∀ i, i < m.toNat → (List.replicate m.toNat z).getD i [] = z := fun i hi => by simp [List.getD_eq_getElem?_getD, hi]
    have hcv : ∀ i j, i < m.toNat → j < P.cellsOf e → ((Array.range (m.toNat * P.cellsOf e)).map (fun x => zv.cells[x % zv.cells.size]!))[i * P.cellsOf e + j]? = some (zv.cells.getD j undef) := fun i j hi hj => by
      have := hidx i j hi hj
      have hj' : j < zv.cells.size := by omega
      have hmod : (i * P.cellsOf e + j) % zv.cells.size = j := by rw [hzs]; exact (div_idx hj).2
      simp [this, hmod, Array.getD_eq_getD_getElem?, hj', getElem!_def]
    have h' := h.fresh (site := site) (t := e) (es := List.replicate m.toNat z) (cv := (Array.range (m.toNat * P.cellsOf e)).map (fun x => zv.cells[x % zv.cells.size]!)) hf h1 h2 (by simp) (.sl (by simp; omega) (fun x hx => by rw [List.eq_of_mem_replicate hx]; exact z3.1) (fun x hx j hj => by
      rw [List.eq_of_mem_replicate hx] at hj ⊢
      exact z3.2 j hj)) (fun i j hi hj => by
      simp only [List.length_replicate] at hi
      exact ⟨_, hcv i j hi hj, by rw [hrep i hi]; exact z5 j (by omega)⟩)
    have hp : VR P (Dn P D w.heap.size (P.cellsOf e, m.toNat) (.row e (List.replicate m.toNat z))) (Rn R site w.heap.size (P.cellsOf e, m.toNat)) (w.alloc (.cells ((Array.range (m.toNat * P.cellsOf e)).map (fun x => zv.cells[x % zv.cells.size]!)) e)) (.sl site 0 m.toNat) (.slice (some ⟨w.heap.size, 0, none⟩) m.toNat m.toNat) := by
      rcases Nat.eq_zero_or_pos m.toNat with hm0 | hm0
      · rw [hm0]; exact .sl0
      · have := VR.sl (P := P) (D := Dn P D w.heap.size (P.cellsOf e, m.toNat) (.row e (List.replicate m.toNat z))) (w := w.alloc (.cells ((Array.range (m.toNat * P.cellsOf e)).map (fun x => zv.cells[x % zv.cells.size]!)) e)) (R := Rn R site w.heap.size (P.cellsOf e, m.toNat)) (id := site) (off := 0) (len := m.toNat) (b := w.heap.size) (sz := P.cellsOf e) (c := m.toNat) (k := m.toNat) (by simp [Rn]) (Nat.le_refl _) (by omega) (by omega) hm0
        simpa using this
    rw [show (List.replicate m.toNat z).length = m.toNat by simp] at h'
    refine wpIn_value hd ?_ (hn _ _ ⟨_, some (site, .row e (List.replicate m.toNat z))⟩ _ _ (h'.put hb hp) .new he2)
    have hwm : IntKind.i64.wrap m = m := by
      simp [IntKind.wrap, IntKind.signed, IntKind.bits]; omega
    have hbig : ¬ (m < 0) := by omega
    have hbig2 : ¬ ((i'.bytes : Int) * m > 281474976710656) := by
      have : (i'.bytes : Int) * m = m * i'.bytes := Int.mul_comm _ _
      omega
    have hz0 : m.toNat * P.cellsOf e = 0 → ((Array.range (m.toNat * P.cellsOf e)).map (fun x => zv.cells[x % zv.cells.size]!)) = ((Array.range (m.toNat * P.cellsOf e)).map (fun x => (#[] : Array Value)[x % (#[] : Array Value).size]!)) := fun h0 => by rw [h0]; simp
    simp only [execOp, hop, el, ec]
    simp only [Instr.makeSlice, Sem.run_bind, run_underlying' hu, Result.andThen_ok, asInt, asIntOf, Sem.run_pure, typeInfo, run_program, hi, hwm]
    by_cases hm0 : m.toNat * P.cellsOf e = 0
    · rw [hz0 hm0]
      simp [hbig, hbig2, run_sizeOf' h2, hm0, newRow, newObj, Sem.run]
    · simp [hbig, hbig2, run_sizeOf' h2, hm0, zeroValue, typeInfo, hi, z2, newRow, newObj, Sem.run]
  case makeMap t rsv =>
    cases rsv with
    | some v => cases he
    | none =>
      simp only at he
      split at he <;> first | (cases he; done) | skip
      rename_i kt vt hu
      obtain ⟨hg, he⟩ := cond_some he
      simp only [Bool.and_eq_true] at hg
      have hb' := below_alloc' w (.map #[] 0)
      have h' := h.newrow (site := site) (B := w.heap.size) (s := (1, 0)) (blk := .mp kt vt []) hf hb' (.inl ⟨Nat.le_refl _, by simp, by simp⟩) ⟨hg.2.1, hg.2.2, hg.1, w.heap.size, #[], 0, by simp [Rn], World.alloc_heap_new w _, rfl, fun i hi => by simp at hi⟩
      refine wpIn_value hd ?_ (hn _ _ ⟨_, some (site, .mp kt vt [])⟩ _ _ (h'.put hb (.mp (b := w.heap.size) (by simp [Rn]))) .new he)
      simp only [execOp, hop, Option.map_none, Sem.run_bind]
      rfl
  case lookup t x ix ok =>
    have hx := h.val x
    have hi := h.val ix
    split at he <;> first | (cases he; done) | skip
    rename_i kt vt id hu hv1
    rw [hv1] at hx
    split at he <;> first | (cases he; done) | skip
    rename_i kt' vt' es hm
    split at he <;> first | (cases he; done) | skip
    rename_i k z hk hz
    obtain ⟨hg, he2⟩ := cond_some he
    simp only [Bool.and_eq_true] at hg
    obtain rfl := Nat.eq_of_beq_eq_true hg.1
    obtain rfl := Nat.eq_of_beq_eq_true hg.2
    obtain ⟨k1, k2, k3, b, en, cl, g1, g2, g3, g4⟩ := (by simpa [hm] using h.mem id : RowOK P D R w id (.mp kt vt es))
    obtain ⟨tk, vk⟩ := asT_sound hk hi
    obtain ⟨i, zv, z1, z2, tz, vz⟩ := zeroT_sound (P := P) (D := D) (R := R) (w := w) hz
    have pk := plain_TV k3 tk
    have ek := toV_plain pk vk
    generalize hax : a.eval x = xv at hx
    cases hx with
    | @mp _ b' hR =>
    obtain rfl : b' = b := by rw [hR] at g1; simpa using g1
    have hent : Ent P kt es en.toList := ⟨by simpa using g3, fun i hi => by
      obtain ⟨q1, q2, q3, q4, q5⟩ := g4 i hi
      refine ⟨q1, q2, ?_⟩
      simpa [Array.getD_eq_getD_getElem?, List.getD_eq_getElem?_getD] using q4⟩
    have hfind := find_key (w := w) k3 tk pk hent
    have hck := check_ok (w := w) k3 tk en.isEmpty 9998
    -- what is found
    have key : ∃ v' , VR P D R w (mval P vt z k es) v' ∧ (Instr.lookup t (.map (some b')) (a.eval ix) ok).run P w = .ok (if ok then .tuple #[v', .bool (mhas k es)] else v') w := by
      have hg' := mfind_get k es 0
      cases hmf : mfind k es 0 with
      | none =>
        rw [hmf] at hg' hfind
        refine ⟨zv, ?_, ?_⟩
        · simp only [mval, ← hg', Option.map_none, Option.getD_none]
          rw [projT_TV tz]; exact vz
        · have hh : mhas k es = false := by simp [mhas, ← hg']
          simp only [Instr.lookup, Sem.run_bind, run_underlying' hu, Result.andThen_ok, Go.MapKept.run_getObj_map g2, Sem.run_pure, ek, hck, hfind, Option.map_none, hh]
          simp [zeroValue, typeInfo, z1, z2]
          try (cases ok <;> rfl)
      | some p =>
        obtain ⟨j, v⟩ := p
        rw [hmf] at hg' hfind
        obtain ⟨m, e0, k', e1, e2⟩ := mfind_at hmf
        obtain rfl : j = m := by omega
        have hj : j < es.length := (List.getElem?_eq_some_iff.1 e1).1
        have hev : es.getD j (.u, .u) = (k', v) := by simp [List.getD_eq_getElem?_getD, e1]
        obtain ⟨q1, q2, q3, q4, q5⟩ := g4 j hj
        rw [hev] at q3 q5
        refine ⟨(en.toList.getD j default).val, ?_, ?_⟩
        · simp only [mval, ← hg', Option.map_some, Option.getD_some]
          rw [projT_TV q3]
          simpa [Array.getD_eq_getD_getElem?, List.getD_eq_getElem?_getD] using q5
        · have hh : mhas k es = true := by simp [mhas, ← hg']
          simp only [Instr.lookup, Sem.run_bind, run_underlying' hu, Result.andThen_ok, Go.MapKept.run_getObj_map g2, Sem.run_pure, ek, hck, hfind, Option.map_some, hh]
          try (cases ok <;> rfl)
    obtain ⟨v', q1, q2⟩ := key
    have hrun : (execOp a.eval o).run P w = .ok (.value (if ok then .tuple #[v', .bool (mhas k es)] else v')) w := by
      simp only [execOp, hop, hax, Sem.run_bind, q2, Result.andThen_ok, Sem.run_pure]
    cases ok with
    | true =>
      refine op_value h hb hn hd hrun (.tup (cs := [mval P vt z k es, .b (mhas k es)]) rfl fun j hj => ?_) he2
      match j, hj with
      | 0, _ => exact q1
      | 1, _ => exact .b
    | false => exact op_value h hb hn hd hrun q1 he2
  case mapUpdate t x kx vx =>
    have hx := h.val x
    have hi := h.val kx
    have hvv := h.val vx
    split at he <;> first | (cases he; done) | skip
    rename_i kt vt id hu hv1
    rw [hv1] at hx
    split at he <;> first | (cases he; done) | skip
    rename_i kt' vt' es hm
    split at he <;> first | (cases he; done) | skip
    rename_i k v hk hv
    obtain ⟨hg, he2⟩ := cond_some he
    simp only [Bool.and_eq_true] at hg
    obtain rfl := Nat.eq_of_beq_eq_true hg.1
    obtain rfl := Nat.eq_of_beq_eq_true hg.2
    obtain ⟨k1, k2, k3, b, en, cl, g1, g2, g3, g4⟩ := (by simpa [hm] using h.mem id : RowOK P D R w id (.mp kt vt es))
    obtain ⟨tk, vk⟩ := asT_sound hk hi
    obtain ⟨tv, vv⟩ := asT_sound hv hvv
    have pk := plain_TV k3 tk
    have ek := toV_plain pk vk
    generalize hax : a.eval x = xv at hx
    cases hx with
    | @mp _ b' hR =>
    obtain rfl : b' = b := by rw [hR] at g1; simpa using g1
    have hent : Ent P kt es en.toList := ⟨by simpa using g3, fun i hi => by
      obtain ⟨q1, q2, q3, q4, q5⟩ := g4 i hi
      refine ⟨q1, q2, ?_⟩
      simpa [Array.getD_eq_getD_getElem?, List.getD_eq_getElem?_getD] using q4⟩
    have hfind := find_key (w := w) k3 tk pk hent
    have hck := check_ok (w := w) k3 tk false 9998
    have hbl := (Array.getElem?_eq_some_iff.1 g2).1
    -- the entries behind it
    have key : ∃ en' cl', (Instr.mapUpdate t (.map (some b')) (a.eval kx) (a.eval vx)).run P w = .ok () { w with heap := w.heap.setIfInBounds b' (.map en' cl') } ∧ en'.size = (mset k v es).length ∧
        ∀ i, i < (mset k v es).length → TV P kt ((mset k v es).getD i (.u, .u)).1 ∧ plain ((mset k v es).getD i (.u, .u)).1 = true ∧ TV P vt ((mset k v es).getD i (.u, .u)).2 ∧
          (en'.getD i default).key = toV ((mset k v es).getD i (.u, .u)).1 ∧ VR P D R w ((mset k v es).getD i (.u, .u)).2 (en'.getD i default).val := by
      cases hmf : mfind k es 0 with
      | none =>
        rw [hmf] at hfind
        have hset : mset k v es = es ++ [(k, v)] := mset_none es 0 hmf
        refine ⟨en.push { key := toV k, val := a.eval vx, born := cl }, cl + 1, ?_, by simp [hset, g3], fun i hi => ?_⟩
        · simp only [Instr.mapUpdate, Sem.run_bind, run_underlying' hu, Result.andThen_ok, Go.MapKept.run_getObj_map g2, ek, hck, hfind, Option.map_none, Go.MapKept.run_setObj_map _ g2]
        · rw [hset] at hi ⊢
          by_cases h1 : i < es.length
          · have e1 : (es ++ [(k, v)]).getD i (.u, .u) = es.getD i (.u, .u) := by simp [List.getD_eq_getElem?_getD, List.getElem?_append_left h1]
            have e2 : (en.push { key := toV k, val := a.eval vx, born := cl }).getD i default = en.getD i default := by
              have : i < en.size := by omega
              simp [Array.getD_eq_getD_getElem?, Array.getElem?_push, show ¬ i = en.size by omega]
            rw [e1, e2]
            exact g4 i h1
          · have h2 : i = es.length := by simp at hi; omega
            have e1 : (es ++ [(k, v)]).getD i (.u, .u) = (k, v) := by simp [List.getD_eq_getElem?_getD, h2]
            have e2 : (en.push { key := toV k, val := a.eval vx, born := cl }).getD i default = { key := toV k, val := a.eval vx, born := cl } := by
              have h3 : i = en.size := by omega
              subst h3
              simp [Array.getD_eq_getD_getElem?, Array.getElem?_push]
            rw [e1, e2]
            exact ⟨tk, pk, tv, rfl, vv⟩
      | some p =>
        obtain ⟨j, v0⟩ := p
        rw [hmf] at hfind
        obtain ⟨m, e0, k', e1, e2⟩ := mfind_at hmf
        obtain rfl : j = m := by omega
        have hj : j < es.length := (List.getElem?_eq_some_iff.1 e1).1
        have hjn : j < en.size := by omega
        have hev : es.getD j (.u, .u) = (k', v0) := by simp [List.getD_eq_getElem?_getD, e1]
        obtain ⟨q1, q2, q3, q4, q5⟩ := g4 j hj
        rw [hev] at q2 q4
        obtain rfl : k = k' := (sameV_eq pk q2).1 e2
        have hset : mset k v es = es.set j (k, v) := by simpa using mset_some (v := v) es 0 hmf
        have hkey : en[j].key = toV k := by simpa [Array.getD_eq_getD_getElem?, hjn] using q4
        have hstay : (Instr.keyThatStays (toV k) (toV k)).run P w = .ok (toV k) w := by
          simp [Instr.keyThatStays, bits_self k3 tk 9999]
        refine ⟨en.modify j fun e => { e with key := toV k, val := a.eval vx }, cl, ?_, by simp [hset, g3], fun i hi => ?_⟩
        · simp only [Instr.mapUpdate, Sem.run_bind, run_underlying' hu, Result.andThen_ok, Go.MapKept.run_getObj_map g2, ek, hck, hfind, Option.map_some]
          have : ((en[j]?).map (·.key)).getD (toV k) = toV k := by simp [hjn, hkey]
          rw [this]
          simp only [hstay, Result.andThen_ok, Go.MapKept.run_setObj_map _ g2]
        · rw [hset] at hi ⊢
          have hi' : i < es.length := by simpa using hi
          have hin : i < en.size := by omega
          by_cases h1 : j = i
          · subst h1
            have e3 : (es.set j (k, v)).getD j (.u, .u) = (k, v) := by simp [List.getD_eq_getElem?_getD, hj]
            have e4 : (en.modify j fun e => { e with key := toV k, val := a.eval vx }).getD j default = { en[j] with key := toV k, val := a.eval vx } := by
              simp [Array.getD_eq_getD_getElem?, hjn, Array.getElem_modify]
            rw [e3, e4]
            exact ⟨tk, pk, tv, rfl, vv⟩
          · have e3 : (es.set j (k, v)).getD i (.u, .u) = es.getD i (.u, .u) := by simp [List.getD_eq_getElem?_getD, List.getElem?_set, h1]
            have e4 : (en.modify j fun e => { e with key := toV k, val := a.eval vx }).getD i default = en.getD i default := by
              simp [Array.getD_eq_getD_getElem?, Array.getElem?_modify, h1]
            rw [e3, e4]
            exact g4 i hi'
    obtain ⟨en', cl', q1, q2, q3⟩ := key
    have hst := h.rewrite (id := id) (b := b') (s := (1, 0)) (w' := { w with heap := w.heap.setIfInBounds b' (.map en' cl') }) (blk := .mp kt vt (mset k v es)) hR (by simp) (by rw [hm]; rfl) (by rw [hm]; intro _; trivial) (fun j hj => by simp [Ne.symm hj]) (by simp) rfl rfl rfl (fun _ h => by cases h)
      fun mono => ⟨k1, k2, k3, b', en', cl', hR, by simp [hbl], q2, fun i hi => by
        obtain ⟨p1, p2, p3, p4, p5⟩ := q3 i hi
        exact ⟨p1, p2, p3, p4, mono p5⟩⟩
    refine wpIn_skip' hd ?_ (hn D R ⟨_, some (id, _)⟩ _ _ (hst.put hb VR_undef) .refl he2)
    simp only [execOp, hop, hax, Sem.run_bind, q1, Result.andThen_ok, Sem.run_pure]
  case range t x =>
    have hx := h.val x
    split at he <;> first | (cases he; done) | skip
    rename_i s hu hv
    rw [hv] at hx
    obtain ⟨ex, hsz⟩ := hx.str_inv
    have hb' := below_alloc' w (.stringIter s 0)
    have h' := h.newrow (site := site) (B := w.heap.size) (s := (1, 0)) (blk := .si s 0) hf hb' (.inl ⟨Nat.le_refl _, by simp, by simp⟩) ⟨hsz, w.heap.size, by simp [Rn], World.alloc_heap_new w _⟩
    refine wpIn_value hd ?_ (hn _ _ ⟨_, some (site, .si s 0)⟩ _ _ (h'.put hb (.it (b := w.heap.size) (by simp [Rn]))) .new he)
    simp only [execOp, hop, ex]
    simp [Instr.range, run_underlying' hu, newObj, Sem.run]
  case next x isS =>
    cases isS with
    | false => cases he
    | true =>
      have hx := h.val x
      simp only at he
      split at he <;> first | (cases he; done) | skip
      rename_i id hv
      rw [hv] at hx
      split at he <;> first | (cases he; done) | skip
      rename_i s p hm
      obtain ⟨k1, b, g1, g2⟩ := (by simpa [hm] using h.mem id : RowOK P D R w id (.si s p))
      have hbl := (Array.getElem?_eq_some_iff.1 g2).1
      generalize hax : a.eval x = xv at hx
      cases hx with
      | @it _ b' hR =>
      obtain rfl : b' = b := by rw [hR] at g1; simpa using g1
      have hget : (getObj b').run P w = .ok (.stringIter s p) w := by simp [getObj, Sem.run, g2]
      cases hlt : Nat.blt p s.size with
      | true =>
        rw [hlt] at he
        simp only [cond_true] at he
        have hlt' : p < s.size := by simpa [Nat.blt_eq] using hlt
        obtain ⟨d1, d2⟩ := decode_bounds s p
        have hst := h.rewrite (id := id) (b := b') (s := (1, 0)) (w' := { w with heap := w.heap.setIfInBounds b' (.stringIter s (p + (Utf8.decode s p).2)) }) (blk := .si s (p + (Utf8.decode s p).2)) hR (by simp) (by rw [hm]; rfl) (by rw [hm]; intro _; trivial) (fun j hj => by simp [Ne.symm hj]) (by simp) rfl rfl rfl (fun _ h => by cases h)
          fun mono => ⟨k1, b', hR, by simp [hbl]⟩
        refine wpIn_value hd ?_ (hn D R ⟨_, some (id, _)⟩ _ _ (hst.put hb (v' := .tuple #[.bool true, goInt p, .int .i32 (Utf8.decode s p).1]) (.tup rfl fun j hj => ?_)) .refl he)
        · simp only [execOp, hop, hax]
          simp [Instr.next, hget, hlt', setObj, Sem.run, g2]
        · match j, hj with
          | 0, _ => exact .b
          | 1, _ => exact .i (by simp [IntKind.min, IntKind.signed, IntKind.bits] <;> omega) (by simp [IntKind.max, IntKind.signed, IntKind.bits] <;> omega)
          | 2, _ => exact .i (by simp [IntKind.min, IntKind.signed, IntKind.bits] <;> omega) (by simp [IntKind.max, IntKind.signed, IntKind.bits] <;> omega)
      | false =>
        rw [hlt] at he
        simp only [cond_false] at he
        have hlt' : ¬ p < s.size := by
          intro hc
          have : Nat.blt p s.size = true := by simpa [Nat.blt_eq] using hc
          rw [hlt] at this; cases this
        have hst := h.rewrite (id := id) (b := b') (s := (1, 0)) (w' := w) (blk := .si s p) hR (by simp) (by rw [hm]; rfl) (by rw [hm]; intro _; trivial) (fun j hj => rfl) rfl rfl rfl rfl (fun _ h => by cases h)
          fun mono => ⟨k1, b', hR, g2⟩
        refine wpIn_value hd ?_ (hn D R ⟨_, some (id, _)⟩ _ _ (hst.put hb (v' := .tuple #[.bool false]) (.tup rfl fun j hj => ?_)) .refl he)
        · simp only [execOp, hop, hax]
          simp [Instr.next, hget, hlt']
        · match j, hj with
          | 0, _ => exact .b
  case makeFunc fn first caps =>
    cases fn <;> simp only at he <;> first | (cases he; done) | skip
    rename_i f
    obtain ⟨hc, he⟩ := cond_some he
    have h0 : first = #[] := by
      have := Nat.eq_of_beq_eq_true hc
      exact Array.eq_empty_of_size_eq_zero this
    subst h0
    refine op_value h hb hn hd (v' := .func (.func f) #[] (caps.map a.eval)) ?_ (.fn (by simp) (fun k hk => ?_)) he
    · simp only [execOp, hop]; simp [Instr.makeFunc]
    · have := args_at h caps.toList k hk
      simpa [Array.getD_eq_getD_getElem?, List.getD_eq_getElem?_getD] using this
  case box t x =>
    split at he <;> first | (cases he; done) | skip
    rename_i cs hfit
    obtain ⟨g1, g2, g3, _⟩ := fit_sound hfit (h.val x)
    refine fresh_sound h hf hb hn hd g1 g2 g3 ?_ he
    simp only [execOp, hop, Sem.run_bind, run_box', Result.andThen_ok, Sem.run_pure]
  case buildSlice t n parts =>
    split at he <;> first | (cases he; done) | skip
    rename_i e hu
    split at he <;> first | (cases he; done) | skip
    rename_i z hz
    obtain ⟨hg, he⟩ := cond_some he
    simp only [Bool.and_eq_true] at hg
    have hbig : n * P.cellsOf e ≤ 16777216 := Nat.le_of_ble_eq_true hg.1
    have hzl : z.length = P.cellsOf e := Nat.eq_of_beq_eq_true hg.2
    split at he <;> first | (cases he; done) | skip
    rename_i cs hfill
    split at he <;> first | (cases he; done) | skip
    rename_i es hrows
    obtain ⟨i, zv, z1, z2, z3, z4, z5⟩ := zeroOf_sound (P := P) (D := D) (R := R) (w := w) hz
    have hcl : (cts P e).length = P.cellsOf e := by rw [← z3.1, hzl]
    have hzs : zv.cells.size = P.cellsOf e := by rw [z4, hzl]
    have hflat : ((List.replicate n z).flatten).length = n * P.cellsOf e := by simp [hzl]
    obtain ⟨cv, g1, g2, g3⟩ := fill_sound (P := P) (D := D) (R := R) (w := w) (pc := fun i => some (i * P.cellsOf e, P.cellsOf e)) (pv := parts.toList.map fun p => (p.1, a.eval p.2))
      (cv := (Array.range (n * P.cellsOf e)).map fun k => zv.cells[k % zv.cells.size]!)
      (fun i x hx => by simp only [Option.some.injEq] at hx; subst hx; rfl)
      hfill (by simp [hzl]) (fun k hk => by
        rw [hflat] at hk
        have hpos : 0 < P.cellsOf e := by
          rcases Nat.eq_zero_or_pos (P.cellsOf e) with h0 | h0
          · rw [h0] at hk; omega
          · exact h0
        have hlt := Nat.mod_lt k hpos
        have := z5 (k % P.cellsOf e) (by omega)
        rw [getD_flat z .u n k (by rw [hzl]; exact hk), hzl]
        simpa [Array.getD_eq_getD_getElem?, hk, hzs, hlt, getElem!_def] using this) (by simp) (fun k hk => by
        simp only [List.length_map] at hk
        rw [getD_map _ _ _ (0, .const Go.undef) _ hk, getD_map _ _ _ (0, .const Go.undef) _ hk]
        exact ⟨rfl, h.val _⟩)
    have hcsl : cs.length = n * P.cellsOf e := by rw [fill_length hfill, hflat]
    obtain ⟨q1, q2, q3⟩ := chunk_rows (P := P) (D := D) (R := R) (w := w) hcl (cv := cv.toList) hrows hcsl (by simpa using g2) (fun k hk => by
      have := g3 k hk
      simpa [Array.getD_eq_getD_getElem?, List.getD_eq_getElem?_getD] using this)
    refine freshRow_sound h hf hb hn hd (c := n) (cv := cv) (by omega) (fun h0 => by rw [h0] at q1; simpa using q1.symm) q2 (by rw [q1]; omega) (fun i j hi hj => ?_) ?_ he
    · have := q3 i j (by omega) hj
      simpa [Array.getD_eq_getD_getElem?, List.getD_eq_getElem?_getD] using this
    · have hparts : (parts.map fun x => match x with | (i, x) => (i, a.eval x)).toList = parts.toList.map fun p => (p.1, a.eval p.2) := by simp
      have hsz : (sizeOf e).run P w = .ok (P.cellsOf e) w := by simp [sizeOf, typeInfo, z1, Program.cellsOf]
      have hzv : (zeroValue e).run P w = .ok zv w := by simp [zeroValue, typeInfo, z1, z2]
      simp only [execOp, hop, Sem.run_bind, Sem.run_pure]
      have hno : ¬ n * P.cellsOf e > 2 ^ 24 := by omega
      rw [q1]
      simp only [Instr.buildSlice, Sem.run_bind, run_underlying' hu, Result.andThen_ok, hsz, hno, if_false, Sem.run_pure, hparts]
      by_cases h0 : n * P.cellsOf e = 0
      · simp only [h0, if_true, Sem.run_bind, Sem.run_pure, Result.andThen_ok] at g1 ⊢
        have e0 : ((Array.range 0).map fun k => (#[] : Array Value)[k % (#[] : Array Value).size]!) = (Array.range 0).map fun k => zv.cells[k % zv.cells.size]! := by simp
        rw [e0, g1]
        simp [newRow, newObj, Sem.run]
      · simp only [h0, if_false, Sem.run_bind, hzv, Sem.run_pure, Result.andThen_ok]
        rw [g1]
        simp [newRow, newObj, Sem.run]
  case alloc t =>
    cases hRO : RO (1000000 + t) with
    | true =>
      rw [hRO] at he
      simp only [cond_true] at he
      split at he <;> first | (cases he; done) | skip
      rename_i cs hz
      obtain ⟨i, zv, z1, z2, z3, z4, z5⟩ := zeroOf_sound (P := P) (D := D) (R := R) (w := w) hz
      refine fresh_sound h hf hb hn hd z3 z4 z5 ?_ he
      simp only [execOp, hop, Sem.run_bind, run_alloc' z1 z2, Result.andThen_ok, Sem.run_pure]
    | false =>
      rw [hRO] at he
      simp only [cond_false] at he
      split at he <;> first | (cases he; done) | skip
      rename_i cs hz
      obtain ⟨i, zv, z1, z2, _, z4, z5⟩ := zeroK_sound (P := P) (D := D) (R := R) (w := w) hz
      refine freshL_sound h hf hb hn hd z4 z5 ?_ he
      simp only [execOp, hop, Sem.run_bind, run_alloc' z1 z2, Result.andThen_ok, Sem.run_pure]
  case store t x v =>
    have hx := h.val x
    have hv := h.val v
    generalize hax : a.eval x = xv at hx
    generalize hav : a.eval v = vv at hv
    have at3 : ∀ {cs : List AV}, (∀ k, k < cs.length → VR P D R w (cs.getD k .u) (vv.cells.getD k undef)) → ∀ k, k < cs.length → VR P D R w (cs.getD k .u) (vv.cells.toList.getD k undef) := fun q3 k hk => by
      have := q3 k hk
      simpa [Array.getD_eq_getD_getElem?, List.getD_eq_getElem?_getD] using this
    split at he <;> first | (cases he; done) | skip
    rename_i id i j hv1
    rw [hv1] at hx
    cases hx with
    | @p _ _ _ b' sz kp hR =>
    -- a store, once it is known what is stored and that the row is there
    have fin : ∀ (e : TypeId) (es : List (List AV)) (cs : List AV) (blk : Blk), (gm st.m id = .row e es ∨ gm st.m id = .lrow e es) → (okT P t && (ctsAt (cts P e) j (cts P t) && Nat.blt i es.length)) = true → cs.length = (cts P t).length →
        vv.cells.size = cs.length → (∀ u ∈ vv.cells.toList, u.oneCell' = true) → K ⟨.tup [], some (id, blk)⟩ = some r →
        (∀ cells ty, R id = some (b', P.cellsOf e, kp) → w.heap[b']? = some (.cells cells ty (0, 0)) → j + cs.length ≤ P.cellsOf e → i < es.length → (∀ k, k < cs.length → (cts P e).getD (j + k) .oth = (cts P t).getD k .oth) →
          SR P w0 X D R (st.mem id blk) a (w.setRow b' (cells.toList.take (i * P.cellsOf e + j) ++ vv.cells.toList ++ cells.toList.drop (i * P.cellsOf e + j + vv.cells.toList.length)).toArray)) →
        o.wpIn (FW ro) n P a w next Q := by
      intro e es cs blk hm hc q1 q2 q4 he hst
      simp only [Bool.and_eq_true] at hc
      obtain ⟨ho, hc, hi⟩ := hc
      have hi : i < es.length := by simpa [Nat.blt_eq] using hi
      have hne : es ≠ [] := by intro e0; rw [e0] at hi; simp at hi
      obtain ⟨hl, hpos, _⟩ := okT_spec ho
      obtain ⟨b, cells, ty, ⟨kc, m1⟩, m2, m3, m4, m5⟩ : ∃ b cells ty, (∃ k, R id = some (b, P.cellsOf e, k)) ∧ w.heap[b]? = some (.cells cells ty (0, 0)) ∧ (cts P e).length = P.cellsOf e ∧ 0 < P.cellsOf e ∧ es.length * P.cellsOf e ≤ cells.size := by
        have hrow := h.mem id
        rcases hm with hm | hm
        · rw [hm] at hrow
          obtain ⟨b, cells, ty, ⟨kc, m1, _⟩, m2, m3, m4, m5, _⟩ := hrow hne
          exact ⟨b, cells, ty, ⟨kc, m1⟩, m2, m3, m4, m5⟩
        · rw [hm] at hrow
          obtain ⟨b, cells, ty, ⟨kc, m1, _⟩, m2, m3, m4, m5, _⟩ := hrow hne
          exact ⟨b, cells, ty, ⟨kc, m1⟩, m2, m3, m4, m5⟩
      obtain ⟨rfl, rfl, rfl⟩ : b' = b ∧ sz = P.cellsOf e ∧ kp = kc := by rw [hR] at m1; simpa using m1
      have hspec := ctsAt_spec hc
      have hcl : cs.length = P.cellsOf t := by rw [q1, hl]
      have hin : j + cs.length ≤ P.cellsOf e := by
        have := (hspec (P.cellsOf t - 1) (by omega)).1
        omega
      have hst := hst cells ty hR m2 hin hi (fun k hk => (hspec k (by omega)).2)
      have hrow : i * P.cellsOf e + P.cellsOf e ≤ cells.size := by
        have := Nat.mul_le_mul_right (P.cellsOf e) (show i + 1 ≤ es.length by omega)
        rw [Nat.add_mul, Nat.one_mul] at this
        omega
      refine wpIn_skip' hd ?_ (hn D R ⟨_, some (id, _)⟩ _ _ (hst.put hb VR_undef) .refl he)
      simp only [execOp, hop, hax, hav, Sem.run_bind, Instr.storeAt, Instr.sureAddr, Sem.run_pure, Result.andThen_ok, storeVar, run_sizeOf' hpos]
      rw [if_neg (by rw [q2, hcl]; simp), run_storeCells_at P b' (i * P.cellsOf e + j) ty vv.cells.toList 0 cells w m2 (by simp; omega) q4]
      simp
    split at he <;> first | (cases he; done) | skip
    · rename_i e es hm
      obtain ⟨hc, he⟩ := cond_some he
      split at he
      · rename_i cs hfit
        have hfit : fitCs (cts P t) (cellsOf (val st v)) = some cs := by
          cases hk : RO (1000000 + t) with
          | true => rw [hk] at hfit; exact hfit
          | false => rw [hk] at hfit; cases hfit
        obtain ⟨q1, q2, q3, q4⟩ := fit_sound hfit hv
        exact fin e es cs _ (.inl hm) hc q1.1 q2 q4 he fun cells ty g1 g2 hin hi hty => h.store (new := cs) (nv := vv.cells.toList) hm g1 g2 hi hin (by simpa using q2) (fun k hk => by
          rw [hty k hk]
          exact q1.2 k hk) (at3 q3)
      · split at he <;> first | (cases he; done) | skip
        rename_i cs hfit
        obtain ⟨q1, q2, q3, q4⟩ := fitO_sound hfit hv
        exact fin e es cs _ (.inl hm) hc q1 q2 q4 he fun cells ty g1 g2 hin hi hty => h.storeL (new := cs) (nv := vv.cells.toList) (.inl hm) g1 g2 hi hin (by simpa using q2) (at3 q3)
    · rename_i e es hm
      obtain ⟨hc, he⟩ := cond_some he
      split at he <;> first | (cases he; done) | skip
      rename_i cs hfit
      obtain ⟨q1, q2, q3, q4⟩ := fitO_sound hfit hv
      exact fin e es cs _ (.inr hm) hc q1 q2 q4 he fun cells ty g1 g2 hin hi hty => h.storeL (new := cs) (nv := vv.cells.toList) (.inr hm) g1 g2 hi hin (by simpa using q2) (at3 q3)
  case slice t x lo hi mx =>
    cases mx with
    | some mx =>
      cases lo with
      | none => cases he
      | some lo =>
      cases hi with
      | none => cases he
      | some hi =>
      have hx := h.val x
      generalize hax : a.eval x = xv at hx
      simp only at he
      split at he <;> first | (cases he; done) | skip
      rename_i e e' es k1 l k2 q k3 m hu hv hl hq hm
      obtain ⟨hc, he2⟩ := cond_some he
      simp only [Bool.and_eq_true, decide_eq_true_eq] at hc
      obtain ⟨_, ho, rfl, rfl, rfl⟩ := hc
      obtain ⟨hle, hz, _⟩ := okT_spec ho
      rw [hv] at hx
      have e1 := (hl ▸ h.val lo).int_inv.1
      have e2 := (hq ▸ h.val hi).int_inv.1
      have e3 := (hm ▸ h.val mx).int_inv.1
      have hxs : ∃ ad len c, xv = .slice ad len c := by
        cases hx with
        | rs0 _ => exact ⟨_, _, _, rfl⟩
        | rs => exact ⟨_, _, _, rfl⟩
      obtain ⟨ad, len, c, rfl⟩ := hxs
      obtain ⟨D', R', q1, q2, q3⟩ := h.newG0 hf ad hle hz
      refine wpIn_value hd (v := .slice ad 0 0) ?_ (hn D' R' ⟨.gv site e [], some (site, .fr e)⟩ _ _ (q1.put hb q2) q3 he2)
      simp only [execOp, hop, Sem.run_bind, hax, Option.map_some, e1, e2, e3, Instr.sliceAt, run_underlying' hu, Result.andThen_ok, Instr.slice]
      simp [Instr.sliceBounds, Instr.sliceBound, asIntOf, run_sizeOf' hz]
    | none =>
      have hx := h.val x
      generalize hax : a.eval x = xv at hx
      simp only at he
      split at he <;> first | (cases he; done) | skip
      · rename_i e e' es hu hv
        rw [hv] at hx
        split at he <;> first | (cases he; done) | skip
        rename_i k l k' q hl hq
        obtain ⟨hc, he2⟩ := cond_some he
        simp only [Bool.and_eq_true, decide_eq_true_eq] at hc
        obtain ⟨⟨hc1, hz⟩, h0, h1, h2⟩ := hc
        have := Nat.eq_of_beq_eq_true hc1
        subst this
        exact slice_rs h hb hn hd hop hu (by simpa [Nat.blt_eq] using hz) (numOf_spec h hl) (numOf_spec h hq) h0 h1 h2 (hax ▸ hx) he2
      · rename_i e id e' es hu hv
        rw [hv] at hx
        split at he <;> first | (cases he; done) | skip
        rename_i k l k' q hl hq
        obtain ⟨hc, he2⟩ := cond_some he
        simp only [Bool.and_eq_true, decide_eq_true_eq] at hc
        obtain ⟨⟨hc1, hz⟩, h0, h1, h2⟩ := hc
        have := Nat.eq_of_beq_eq_true hc1
        subst this
        exact slice_rs h hb hn hd hop hu (by simpa [Nat.blt_eq] using hz) (numOf_spec h hl) (numOf_spec h hq) h0 h1 h2 (hax ▸ hx.gv_rs) he2
      · rename_i e id off len hu hv
        rw [hv] at hx
        split at he <;> first | (cases he; done) | skip
        rename_i e' es hm
        split at he <;> first | (cases he; done) | skip
        rename_i k l k' q hl hq
        obtain ⟨hc, he2⟩ := cond_some he
        simp only [Bool.and_eq_true, decide_eq_true_eq] at hc
        obtain ⟨⟨hc1, hz, hfit⟩, h0, h1, h2⟩ := hc
        have hfit : off + len ≤ es.length := Nat.le_of_ble_eq_true hfit
        have := Nat.eq_of_beq_eq_true hc1
        subst this
        have hz : 0 < P.cellsOf e := by simpa [Nat.blt_eq] using hz
        have hlo := numOf_spec h hl
        have hhi := numOf_spec h hq
        have main : ∀ (ad : Option Addr) (c : Nat), len ≤ c → (Instr.sliceAt t (.slice ad len c) (lo.map a.eval) (hi.map a.eval) none).run P w =
            .ok (.slice (if c = l.toNat then ad else ad.map (·.add (l.toNat * P.cellsOf e))) (q.toNat - l.toNat) (c - l.toNat)) w := by
          intro ad c hc
          simp only [Instr.sliceAt, Sem.run_bind, run_underlying' hu, Result.andThen_ok, Instr.slice]
          rw [run_bounds hlo hhi h0 h1 h2 hc]
          simp only [Result.andThen_ok, run_sizeOf' hz, Sem.run_pure]
        by_cases hlq : l < q
        · rw [decide_eq_true hlq] at he2
          simp only [cond_true] at he2
          cases hx with
          | sl0 => omega
          | @sl _ _ _ b sz c kp hR hle hlm hcap hpo =>
            have hne : ¬ c = l.toNat := by omega
            have hrow := h.mem id
            rw [hm] at hrow
            have hsz : l.toNat * P.cellsOf e = l.toNat * sz := by
              by_cases hes : es = []
              · rw [hes] at hfit
                simp at hfit
                omega
              · obtain ⟨b', cells, ty, ⟨kc, m1, _⟩, _⟩ := hrow hes
                rw [hR] at m1
                rw [show sz = P.cellsOf e from (by simpa using m1 : b = b' ∧ sz = P.cellsOf e ∧ kp = kc).2.1]
            refine op_value h hb hn hd (v' := .slice (some ⟨b, (off + l.toNat) * sz, none⟩) (q.toNat - l.toNat) (c - l.toNat)) ?_ (.sl hR (by omega) (by omega) (by omega) (by omega)) he2
            simp only [execOp, hop, Sem.run_bind, hax, Option.map_none, main _ _ hle, hne, if_false, Option.map_some, add_plain', hsz, ← Nat.add_mul]
            rfl
        · rw [decide_eq_false hlq] at he2
          simp only [cond_false] at he2
          have hq0 : q.toNat - l.toNat = 0 := by omega
          have gen : ∀ (ad : Option Addr) (c : Nat), len ≤ c → (ad = none → c = 0) → xv = .slice ad len c → o.wpIn (FW ro) n P a w next Q := fun ad c hc hac hxe => by
            refine op_value h hb hn hd (v' := .slice (if c = l.toNat then ad else ad.map (·.add (l.toNat * P.cellsOf e))) (q.toNat - l.toNat) (c - l.toNat)) ?_ (by
              rw [hq0]
              exact .rs0 fun h0 => by
                cases ad with
                | none => have := hac rfl; omega
                | some ad => split at h0 <;> cases h0) he2
            simp only [execOp, hop, Sem.run_bind, hax, hxe, Option.map_none, main _ _ hc]
            rfl
          cases hx with
          | @sl0 _ _ ad => exact gen ad 0 (Nat.zero_le _) (fun _ => rfl) rfl
          | @sl _ _ _ b sz c kp hR hle hlm hcap hpo => exact gen _ c hle (fun h0 => by cases h0) rfl
      · rename_i t' id i j hu hv
        rw [hv] at hx
        split at he <;> first | (cases he; done) | skip
        rename_i m e hu'
        split at he <;> first | (cases he; done) | skip
        rename_i k l k' q hl hq
        obtain ⟨hc, he2⟩ := cond_some he
        simp only [Bool.and_eq_true, decide_eq_true_eq] at hc
        obtain ⟨⟨hc1, hz⟩, h0, hlm, h1, h2⟩ := hc
        have hc1 : m ≤ 9223372036854775807 := Nat.le_of_ble_eq_true hc1
        have hz : 0 < P.cellsOf e := by simpa [Nat.blt_eq] using hz
        have hlo := numOf_spec h hl
        have hhi := numOf_spec h hq
        cases hx with
        | @p _ _ _ b sz kp hR =>
          refine op_value h hb hn hd (v' := .slice (some ⟨b, i * sz + (j + l.toNat * P.cellsOf e), none⟩) (q.toNat - l.toNat) (m - l.toNat)) ?_ (.sa hR (by omega) (by omega)) he2
          have hne : ¬ m = l.toNat := by omega
          simp only [execOp, hop, Sem.run_bind, hax, Option.map_none, Instr.sliceAt, run_underlying' hu, Result.andThen_ok, Instr.slice, asAddr, Instr.sureAddr, Sem.run_pure, run_underlying' hu', run_bounds hlo hhi h0 h1 h2 (Nat.le_refl _), run_sizeOf' hz, hne, if_false, add_plain', Nat.add_assoc]
      · rename_i m e id i j hu hv
        rw [hv] at hx
        split at he <;> first | (cases he; done) | skip
        rename_i k l k' q hl hq
        obtain ⟨hc, he2⟩ := cond_some he
        simp only [Bool.and_eq_true, decide_eq_true_eq] at hc
        obtain ⟨⟨hc1, hz⟩, h0, hlm, h1, h2⟩ := hc
        have hc1 : m ≤ 9223372036854775807 := Nat.le_of_ble_eq_true hc1
        have hz : 0 < P.cellsOf e := by simpa [Nat.blt_eq] using hz
        have hlo := numOf_spec h hl
        have hhi := numOf_spec h hq
        cases hx with
        | @p _ _ _ b sz kp hR =>
          refine op_value h hb hn hd (v' := .slice (some ⟨b, i * sz + (j + l.toNat * P.cellsOf e), none⟩) (q.toNat - l.toNat) (m - l.toNat)) ?_ (.sa hR (by omega) (by omega)) he2
          have hne : ¬ m = l.toNat := by omega
          simp only [execOp, hop, Sem.run_bind, hax, Option.map_none, Instr.sliceAt, run_underlying' hu, Result.andThen_ok, Instr.sureAddr, Sem.run_pure, run_bounds hlo hhi h0 h1 h2 (Nat.le_refl _), run_sizeOf' hz, hne, if_false, add_plain', Nat.add_assoc]
      · rename_i s hu hv
        rw [hv] at hx
        split at he <;> first | (cases he; done) | skip
        rename_i k l k' q hl hq
        obtain ⟨hc, he2⟩ := cond_some he
        simp only [Bool.and_eq_true, decide_eq_true_eq] at hc
        obtain ⟨h0, h1, h2⟩ := hc
        obtain ⟨rfl, hsz⟩ := hx.str_inv
        have hlo := numOf_spec h hl
        have hhi := numOf_spec h hq
        refine op_value h hb hn hd (v' := .string (s.extract l.toNat q.toNat)) ?_ (.s (by simp; omega)) he2
        simp only [execOp, hop, Sem.run_bind, hax, Option.map_none, Instr.sliceAt, run_underlying' hu, Result.andThen_ok, Instr.slice, Option.isSome_none, Bool.false_eq_true, if_false, Sem.run_pure]
        rw [run_bounds hlo hhi h0 h1 h2 (Nat.le_refl _)]
        rfl
  case call c =>
    have hres : ∀ (f : Operand), c.callee = .value f → ∀ g cv, a.eval f = .func (.func g) #[] cv → (resolve a.eval c o.type).run P w = .ok { target := .fn (.func g) cv, args := #[] ++ c.args.map a.eval } w := by
      intro f hc g cv hf'
      simp [resolve, hc, Deferred.ofValue, hf']
    have hresb : ∀ b, c.callee = .builtin b → ∃ cs, (resolve a.eval c o.type).run P w = .ok { target := .builtin b c.argTypes o.type cs, args := c.args.map a.eval } w := by
      intro b hc
      simp only [resolve, hc, Sem.run_pure]
      exact ⟨_, rfl⟩
    have hargs := args_at h c.args.toList
    split at he
    · rename_i hc
      obtain ⟨csb, hrb⟩ := hresb _ hc
      have one : ∀ {v : AV}, c.args.toList.map (val st) = [v] → ∃ u, c.args.map a.eval = #[u] ∧ VR P D R w v u := by
        intro v hv
        have hl : c.args.toList.length = 1 := by have := congrArg List.length hv; simpa using this
        match hcl : c.args.toList, hl with
        | [x], _ =>
          refine ⟨a.eval x, ?_, ?_⟩
          · apply Array.ext'
            simp [hcl]
          · rw [hcl] at hv
            simp only [List.map_cons, List.map_nil, List.cons.injEq, and_true] at hv
            rw [← hv]
            exact h.val x
      have hty : ∀ {d : TypeDesc}, (c.argTypes[0]?).bind P.underlying = some d → ∃ t, c.argTypes[0]? = some t ∧ P.underlying t = some d := by
        intro d hd
        cases ht : c.argTypes[0]? with
        | none => rw [ht] at hd; cases hd
        | some t => rw [ht] at hd; exact ⟨t, rfl, hd⟩
      split at he <;> first | (cases he; done) | skip
      · rename_i e es e2 hv hd'
        obtain ⟨u, hu1, hu2⟩ := one hv
        obtain ⟨t, ht, hut⟩ := hty hd'
        have : ∃ ad cc, u = .slice ad es.length cc ∧ es.length ≤ 9223372036854775807 := by
          cases hu2 with
          | rs0 => exact ⟨_, _, rfl, by simp⟩
          | rs _ _ _ _ _ h5 _ _ =>
            cases h5 with
            | sl h1 _ _ => exact ⟨_, _, rfl, h1⟩
        obtain ⟨ad, cc, rfl, hle⟩ := this
        refine op_value h hb hn hd (v' := .int .i64 es.length) ?_ (.i (by simp [IntKind.min, IntKind.signed, IntKind.bits] <;> omega) (by simp [IntKind.max, IntKind.signed, IntKind.bits] <;> omega)) he
        simp only [execOp, hop, Sem.run_bind, hrb, Result.andThen_ok, invoke, builtin, hu1]
        simp [Builtin.len_, ht, run_underlying' hut, goInt]
      · rename_i e2 hv hd'
        obtain ⟨u, hu1, hu2⟩ := one hv
        obtain ⟨t, ht, hut⟩ := hty hd'
        cases hu2
        refine op_value h hb hn hd (v' := .int .i64 0) ?_ (.i (by simp [IntKind.min, IntKind.signed, IntKind.bits]) (by simp [IntKind.max, IntKind.signed, IntKind.bits])) he
        simp only [execOp, hop, Sem.run_bind, hrb, Result.andThen_ok, invoke, builtin, hu1]
        simp [Builtin.len_, ht, run_underlying' hut, goInt]
      · rename_i id off m e2 hv hd'
        obtain ⟨u, hu1, hu2⟩ := one hv
        obtain ⟨t, ht, hut⟩ := hty hd'
        cases hu2 with
        | sl0 =>
          refine op_value h hb hn hd (v' := .int .i64 0) ?_ (.i (by simp [IntKind.min, IntKind.signed, IntKind.bits]) (by simp [IntKind.max, IntKind.signed, IntKind.bits])) he
          simp only [execOp, hop, Sem.run_bind, hrb, Result.andThen_ok, invoke, builtin, hu1]
          simp [Builtin.len_, ht, run_underlying' hut, goInt]
        | @sl _ _ _ b sz cc kp hR hle hle2 hcap hpo =>
          refine op_value h hb hn hd (v' := .int .i64 m) ?_ (.i (by simp [IntKind.min, IntKind.signed, IntKind.bits] <;> omega) (by simp [IntKind.max, IntKind.signed, IntKind.bits] <;> omega)) he
          simp only [execOp, hop, Sem.run_bind, hrb, Result.andThen_ok, invoke, builtin, hu1]
          simp [Builtin.len_, ht, run_underlying' hut, goInt]
      · rename_i full e2 hv hd'
        obtain ⟨u, hu1, hu2⟩ := one hv
        obtain ⟨t, ht, hut⟩ := hty hd'
        cases hu2
        refine op_value h hb hn hd (v' := .int .i64 0) ?_ (.i (by simp [IntKind.min, IntKind.signed, IntKind.bits]) (by simp [IntKind.max, IntKind.signed, IntKind.bits])) he
        simp only [execOp, hop, Sem.run_bind, hrb, Result.andThen_ok, invoke, builtin, hu1]
        simp [Builtin.len_, ht, run_underlying' hut, goInt]
      · rename_i id e3 es e2 hv hd'
        obtain ⟨u, hu1, hu2⟩ := one hv
        obtain ⟨t, ht, hut⟩ := hty hd'
        have : ∃ ad cc, u = .slice ad es.length cc ∧ es.length ≤ 9223372036854775807 := by
          cases hu2 with
          | gv0 => exact ⟨_, _, rfl, by simp⟩
          | gv _ _ _ _ _ h5 _ _ _ => exact ⟨_, _, rfl, (WT_rs h5).1⟩
        obtain ⟨ad, cc, rfl, hle⟩ := this
        refine op_value h hb hn hd (v' := .int .i64 es.length) ?_ (.i (by simp [IntKind.min, IntKind.signed, IntKind.bits] <;> omega) (by simp [IntKind.max, IntKind.signed, IntKind.bits] <;> omega)) he
        simp only [execOp, hop, Sem.run_bind, hrb, Result.andThen_ok, invoke, builtin, hu1]
        simp [Builtin.len_, ht, run_underlying' hut, goInt]
      · rename_i id i j m e2 hv hd'
        obtain ⟨u, hu1, hu2⟩ := one hv
        obtain ⟨t, ht, hut⟩ := hty hd'
        cases hu2 with
        | @sa _ _ _ _ b sz cc kp hR hle hle2 =>
          refine op_value h hb hn hd (v' := .int .i64 m) ?_ (.i (by simp [IntKind.min, IntKind.signed, IntKind.bits] <;> omega) (by simp [IntKind.max, IntKind.signed, IntKind.bits] <;> omega)) he
          simp only [execOp, hop, Sem.run_bind, hrb, Result.andThen_ok, invoke, builtin, hu1]
          simp [Builtin.len_, ht, run_underlying' hut, goInt]
      · rename_i m e2 hv hd'
        obtain ⟨u, hu1, hu2⟩ := one hv
        obtain ⟨t, ht, hut⟩ := hty hd'
        cases hu2 with
        | @ln _ cc ad hle2 =>
          refine op_value h hb hn hd (v' := .int .i64 m) ?_ (.i (by simp [IntKind.min, IntKind.signed, IntKind.bits] <;> omega) (by simp [IntKind.max, IntKind.signed, IntKind.bits] <;> omega)) he
          simp only [execOp, hop, Sem.run_bind, hrb, Result.andThen_ok, invoke, builtin, hu1]
          simp [Builtin.len_, ht, run_underlying' hut, goInt]
      · rename_i s hv hd'
        obtain ⟨u, hu1, hu2⟩ := one hv
        obtain ⟨t, ht, hut⟩ := hty hd'
        obtain ⟨rfl, hsz⟩ := hu2.str_inv
        refine op_value h hb hn hd (v' := .int .i64 s.size) ?_ (.i (by simp [IntKind.min, IntKind.signed, IntKind.bits] <;> omega) (by simp [IntKind.max, IntKind.signed, IntKind.bits] <;> omega)) he
        simp only [execOp, hop, Sem.run_bind, hrb, Result.andThen_ok, invoke, builtin, hu1]
        simp [Builtin.len_, ht, run_underlying' hut, goInt]
    · rename_i hc
      exact minmax_sound (mx := true) h hb hn hd hop hc hresb he
    · rename_i hc
      exact minmax_sound (mx := false) h hb hn hd hop hc hresb he
    · rename_i hc
      obtain ⟨csb, hrb⟩ := hresb _ hc
      split at he <;> first | (cases he; done) | skip
      rename_i x y t t' hv hty
      have key : ∃ xv yv, c.args.map a.eval = #[xv, yv] ∧ c.argTypes = #[t, t'] ∧ VR P D R w x xv ∧ VR P D R w y yv := by
        have hl : c.args.toList.length = 2 := by have := congrArg List.length hv; simpa using this
        match hcl : c.args.toList, hl with
        | [p, q], _ =>
          rw [hcl] at hv
          simp only [List.map_cons, List.map_nil, List.cons.injEq, and_true] at hv
          refine ⟨a.eval p, a.eval q, ?_, ?_, hv.1 ▸ h.val p, hv.2 ▸ h.val q⟩
          · apply Array.ext'
            simp [hcl]
          · apply Array.ext'
            simpa using hty
      obtain ⟨xv, yv, ha1, ha2, hx, hy⟩ := key
      have hrun : ∀ v w', (Builtin.append_ #[t, t'] o.type #[xv, yv]).run P w = .ok v w' → (execOp a.eval o).run P w = .ok (.value v) w' := fun v w' hr => by
        simp only [execOp, hop, Sem.run_bind, hrb, Result.andThen_ok, invoke, builtin, ha1, ha2, hr, Sem.run_pure]
      split at he <;> first | (cases he; done) | skip
      · rename_i e hu
        exact grown_sound h hf hb hn hd hu (.inl rfl) hx (VR_fitA _ hy) hrun he
      · rename_i e hu
        exact grown_sound h hf hb hn hd hu (.inr rfl) hx (VR_fitA _ hy) hrun he
    · rename_i hc
      obtain ⟨csb, hrb⟩ := hresb _ hc
      split at he <;> first | (cases he; done) | skip
      rename_i id off len y t t' hv hty
      have key : ∃ xv yv, c.args.map a.eval = #[xv, yv] ∧ c.argTypes = #[t, t'] ∧ VR P D R w (.sl id off len) xv ∧ VR P D R w y yv := by
        have hl : c.args.toList.length = 2 := by have := congrArg List.length hv; simpa using this
        match hcl : c.args.toList, hl with
        | [p, q], _ =>
          rw [hcl] at hv
          simp only [List.map_cons, List.map_nil, List.cons.injEq, and_true] at hv
          refine ⟨a.eval p, a.eval q, ?_, ?_, hv.1 ▸ h.val p, hv.2 ▸ h.val q⟩
          · apply Array.ext'
            simp [hcl]
          · apply Array.ext'
            simpa using hty
      obtain ⟨xv, yv, ha1, ha2, hx, hy⟩ := key
      have hrun : ∀ v w', (Builtin.copy_ #[t, t'] o.type #[xv, yv]).run P w = .ok v w' → (execOp a.eval o).run P w = .ok (.value v) w' := fun v w' hr => by
        simp only [execOp, hop, Sem.run_bind, hrb, Result.andThen_ok, invoke, builtin, ha1, ha2, hr, Sem.run_pure]
      exact copy_sound h hb hn hd hx hy hrun he
    · rename_i f hc
      have hf' := h.val f
      generalize haf : a.eval f = fv at hf'
      split at he <;> first | (cases he; done) | skip
      rename_i g caps hv
      rw [hv] at hf'
      obtain ⟨hfree, he⟩ := cond_some he
      split at he <;> first | (cases he; done) | skip
      rename_i pre v hS
      obtain ⟨hpre, he⟩ := cond_some he
      have hcon := hs _ _ _ _ _ _ hS hpre
      obtain ⟨fn, hfn, hname, hbody⟩ := hcon.fn
      cases hf' with
      | @fn _ _ cv c1 c2 =>
        have hbody' : fn.body.isNone = false := by cases hb' : fn.body <;> simp_all
        have hrun : (execOp a.eval o).run P w = .ok (.enter g (#[] ++ c.args.map a.eval ++ cv)) w := by
          simp only [execOp, hop, Sem.run_bind, hres f hc g cv haf, Result.andThen_ok, invoke, callFunc, run_program, hfn, hname, hbody', Bool.false_eq_true, if_false, Sem.run_pure]
        have hlen : (fitArgs P c.argTypes.toList (c.args.toList.map (val st)) ++ caps).length = c.args.size + caps.length := by simp [fitArgs_length]
        have hC := hcon.plain D w (#[] ++ c.args.map a.eval ++ cv) h.lt (by simp [fitArgs_length, c1]) (fun k hk => by
          have hv1 : ∀ k, k < (fitArgs P c.argTypes.toList (c.args.toList.map (val st))).length → VR P D R w ((fitArgs P c.argTypes.toList (c.args.toList.map (val st))).getD k .u) ((c.args.toList.map a.eval).getD k undef) := by
            intro k hk
            rw [fitArgs_length] at hk
            exact fitArgs_at _ _ _ hargs k hk
          have := app_at (v1 := c.args.toList.map a.eval) (v2 := cv.toList) (by simp [fitArgs_length]) hv1 (fun k hk => by
            have := c2 k hk
            simpa [Array.getD_eq_getD_getElem?, List.getD_eq_getElem?_getD] using this) k hk
          have e : (#[] ++ c.args.map a.eval ++ cv).getD k undef = (c.args.toList.map a.eval ++ cv.toList).getD k undef := by
            rw [Array.getD_eq_getD_getElem?, List.getD_eq_getElem?_getD, ← Array.getElem?_toList]
            simp
          rw [e]
          exact this.free_any (nb := 0) (R' := none2) (fun _ _ h => absurd h (by omega)) (freeL_at hfree hk))
        refine wpIn_enter hd hrun hC ?_
        rintro e w' ⟨v', rfl, hv', hbw⟩
        refine ⟨v', rfl, ?_⟩
        have hv'' : VR P D R w' v v' := hv'.mono (fun id x e => by cases e) (fun b hlt => .inr ⟨fun _ hd => hd, rfl⟩)
        exact hn D R ⟨v, none⟩ v' w' ((h.world hbw).put hb hv'') .refl he
    · cases he
end Go.Ev

set_option linter.unusedVariables false
set_option linter.unusedSimpArgs false
namespace Go.Ev
open Go Go.RowKit

variable {P : Program} {w0 : Base} {X D : Nat → Nat → Prop} {R : Nat → Option (Nat × Nat × Nat)} {st : St} {a : Act} {w : World}
variable {ρ : Type}
theorem frzL_length (k : Nat) (ow : Option Nat) (st : St) : ∀ (l : List AV), (frzL k ow st l).length = l.length
  | [] => rfl
  | a :: r => by simp [frzL, frzL_length k ow st r]
theorem frzL_at (k : Nat) (ow : Option Nat) (st : St) : ∀ (l : List AV) (i : Nat), i < l.length → (frzL k ow st l).getD i .u = frz k ow st (l.getD i .u)
  | [], i, hk => by simp at hk
  | a :: r, 0, _ => by simp [frzL]
  | a :: r, i + 1, hk => by simpa [frzL] using frzL_at k ow st r i (by simpa using hk)
theorem frzGL_at {k : Nat} {ow : Option Nat} {st : St} : ∀ {l : List AV} {i : Nat}, frzGL P k ow st l = true → i < l.length → frzG P k ow st (l.getD i .u) = true
  | [], i, _, hk => by simp at hk
  | a :: r, 0, h, _ => by simp only [frzGL, Bool.and_eq_true] at h; simpa using h.1
  | a :: r, i + 1, h, hk => by
    simp only [frzGL, Bool.and_eq_true] at h
    simpa using frzGL_at h.2 (by simpa using hk)
mutual
theorem frzK_some {k : Nat} {ow : Option Nat} {st : St} {K : Option ρ} {r : ρ} : ∀ {v : AV}, frzK P k ow st v K = some r → frzG P k ow st v = true ∧ K = some r
  | .sl id off len, h => by
    simp only [frzK, frzG] at h ⊢
    cases hk : keepI k ow id with
    | true => rw [hk] at h; exact ⟨rfl, h⟩
    | false =>
      rw [hk] at h
      simp only [cond_false, Bool.false_or] at h ⊢
      split at h
      · obtain ⟨h1, h⟩ := cond_some h
        obtain ⟨h2, h⟩ := cond_some h
        exact ⟨by rw [h1, h2]; rfl, h⟩
      · cases h
  | .gv _ e _, h => cond_some h
  | .agg cs, h => frzKL_some (l := cs) h
  | .tup cs, h => frzKL_some (l := cs) h
  | .b _, h => cond_some h
  | .i _ _, h => cond_some h
  | .s _, h => cond_some h
  | .nl, h => cond_some h
  | .rs _ _, h => cond_some h
  | .p _ _ _, h => cond_some h
  | .rp _ _ _, h => cond_some h
  | .np, h => cond_some h
  | .ln _, h => cond_some h
  | .fn _ _, h => cond_some h
  | .nf, h => cond_some h
  | .yl _, h => cond_some h
  | .ni, h => cond_some h
  | .nm, h => cond_some h
  | .ifc _ _, h => cond_some h
  | .e0 _, h => cond_some h
  | .sa _ _ _ _, h => cond_some h
  | .mp _, h => cond_some h
  | .it _, h => cond_some h
  | .u, h => cond_some h
theorem frzKL_some {k : Nat} {ow : Option Nat} {st : St} {K : Option ρ} {r : ρ} : ∀ {l : List AV}, frzKL P k ow st l K = some r → frzGL P k ow st l = true ∧ K = some r
  | [], h => ⟨rfl, h⟩
  | a :: l, h => by
    simp only [frzKL, frzGL] at h ⊢
    obtain ⟨h1, h2⟩ := frzK_some (v := a) h
    obtain ⟨h3, h4⟩ := frzKL_some (l := l) h2
    exact ⟨by rw [h1, h3]; rfl, h4⟩
end
theorem part_eq {es : List (List AV)} {off len : Nat} : (cond (Nat.beq off 0 && Nat.beq len es.length) es ((es.drop off).take len)) = (es.drop off).take len := by
  cases hc : Nat.beq off 0 && Nat.beq len es.length with
  | false => rfl
  | true =>
    obtain ⟨h1, h2⟩ := Bool.and_eq_true_iff.1 hc
    obtain rfl := Nat.eq_of_beq_eq_true h1
    obtain rfl := Nat.eq_of_beq_eq_true h2
    simp
theorem frz_sound {R' : Nat → Option (Nat × Nat × Nat)} {k : Nat} {ow : Option Nat} (h : SR P w0 (XR X R) D R' st a w) (hR : ∀ id y, keepI k ow id = true → R' id = some y → R id = some y)
    (hnew : ∀ id b s, keepI k ow id = false → alive (gm st.m id) = true → R' id = some (b, s) → s ≠ (0, 0) → ∀ o, ¬ XR X R b o) {x : AV} {v : Value} (hv : VR P D R' w x v) : frzG P k ow st x = true → VR P (XR X R) R w (frz k ow st x) v := by
  have shrink : ∀ {R2 : Nat → Option (Nat × Nat × Nat)} {x : AV} {v : Value}, VR P D R2 w x v → VR P (XR X R) R2 w x v := fun hv => hv.mono' (fun _ _ e => e) (fun b o u hd hc => ⟨fun hb => hd (h.X b o hb), hc⟩)
  have any : ∀ {x : AV} {v : Value}, VR P D R' w x v → free P k x = true → VR P (XR X R) R w x v := fun hv hf => shrink (hv.free_any (fun id y hid => hR id y (by simp [keepI, Nat.blt_eq, hid])) hf)
  induction hv with
  | b => exact fun _ => .b
  | i q1 q2 => exact fun _ => .i q1 q2
  | s q1 => exact fun _ => .s q1
  | nl => exact fun _ => .nl
  | rs0 q => exact fun _ => .rs0 q
  | e0 q => exact fun _ => .e0 q
  | rs q1 q2 q3 q4 q5 q6 q7 q8 _ => exact any (.rs q1 q2 q3 q4 q5 q6 q7 q8)
  | @gv id e es b c f q1 q2 q3 q4 q5 q6 q7 q8 q9 _ =>
    intro hg
    have hno : noOth P 8 e = true := by simpa [frzG] using hg
    exact shrink (.rs q1 q2 q3 q4 q5 q6 q7 (flat_es hno q4 q6 q8))
  | gv0 q => exact fun _ => .rs0 fun _ => rfl
  | @sl id off len b sz c kp q1 q2 q3 q4 q5 =>
    intro hg
    simp only [frz, frzG] at hg ⊢
    cases hk : keepI k ow id with
    | true => exact .sl (hR _ _ hk q1) q2 q3 q4 q5
    | false =>
      rw [hk, Bool.false_or] at hg
      simp only [cond_false]
      split at hg
      · rename_i e es hm
        obtain ⟨hno, hle⟩ := Bool.and_eq_true_iff.1 hg
        have hle : off + len ≤ es.length := Nat.le_of_ble_eq_true hle
        simp only [part_eq]
        have hL : ((es.drop off).take len).length = len := by rw [List.length_take, List.length_drop]; omega
        rcases Nat.eq_zero_or_pos len with rfl | hpos
        · rw [show (es.drop off).take 0 = [] by simp]
          exact .rs0 fun h0 => by cases h0
        · have hne : es ≠ [] := by intro e0; rw [e0] at hle; simp at hle; omega
          have hrow := h.mem id
          rw [hm] at hrow
          obtain ⟨b', cells, ty, ⟨kc, g1, gk⟩, g2, g3, g4, g5, g6, g7⟩ := hrow hne
          obtain ⟨rfl, rfl, _⟩ : b = b' ∧ sz = P.cellsOf e ∧ kp = kc := by rw [q1] at g1; simpa using g1
          obtain ⟨w1, w2, w3⟩ := WT_rs g6
          have hmem : ∀ x, x ∈ (es.drop off).take len → x ∈ es := fun x hx => List.mem_of_mem_drop (List.mem_of_mem_take hx)
          have hget : ∀ i, i < len → ((es.drop off).take len).getD i [] = es.getD (off + i) [] := fun i hi => by
            simp [List.getD_eq_getElem?_getD, List.getElem?_take, hi]
          have key : VR P (XR X R) R w (.rs e ((es.drop off).take len)) (.slice (some ⟨b, off * P.cellsOf e, none⟩) ((es.drop off).take len).length c) := by
            refine .rs (f := fun i j => (cells[(off + i) * P.cellsOf e + j]?).getD undef) (by intro e0; rw [e0] at hL; simp at hL; omega) g4 (by rw [hL]; exact q2) g3 (fun i j _ _ => hnew id b _ hk (by rw [hm]; rfl) q1 (by simp; omega) _) (.sl (by rw [hL]; exact q3) (fun x hx => w2 x (hmem x hx)) (fun x hx => w3 x (hmem x hx))) (fun i j hi hj => ?_) (fun i j hi hj => ?_)
            · rw [hL] at hi
              obtain ⟨u, u1, u2⟩ := g7 (off + i) j (by omega) hj
              have : off * P.cellsOf e + (i * P.cellsOf e + j) = (off + i) * P.cellsOf e + j := by rw [Nat.add_mul]; omega
              simp [World.cell?, g2, this, u1]
            · rw [hL] at hi
              obtain ⟨u, u1, u2⟩ := g7 (off + i) j (by omega) hj
              rw [hget i hi, u1]
              have hx := getD_mem' (show off + i < es.length by omega)
              exact shrink (u2.flat _ 7 (w3 _ hx j (by rw [w2 _ hx, g3]; exact hj)) (noOth_cell hno (by rw [g3]; exact hj)))
          rw [hL] at key
          exact key
      · cases hg
  | @sl0 id off ad =>
    intro hg
    simp only [frz, frzG] at hg ⊢
    cases hk : keepI k ow id with
    | true => exact .sl0
    | false =>
      rw [hk, Bool.false_or] at hg
      simp only [cond_false]
      split at hg
      · rename_i e es hm
        simp only [part_eq]
        rw [show (es.drop off).take 0 = [] by simp]
        exact .rs0 fun _ => rfl
      · cases hg
  | sa q1 q2 q3 => exact any (.sa q1 q2 q3)
  | mp q => exact any (.mp q)
  | it q => exact any (.it q)
  | p q => exact any (.p q)
  | rp q1 q2 q3 q4 q5 _ => exact any (.rp q1 q2 q3 q4 q5)
  | np => exact fun _ => .np
  | ln h => exact any (.ln h)
  | fn q1 q2 _ => exact any (.fn q1 q2)
  | nf => exact fun _ => .nf
  | yl => exact fun _ => .yl
  | ni => exact fun _ => .ni
  | nm => exact fun _ => .nm
  | ifc q _ => exact any (.ifc q)
  | @agg cs _ q1 _ ih =>
    intro hg
    have hg' : frzGL P k ow st cs = true := by simpa [frzG] using hg
    refine .agg (by rw [frzL_length]; exact q1) fun i hi => ?_
    rw [frzL_length] at hi
    rw [frzL_at _ _ _ _ _ hi]
    exact ih i hi (frzGL_at hg' hi)
  | @tup cs _ q1 _ ih =>
    intro hg
    have hg' : frzGL P k ow st cs = true := by simpa [frzG] using hg
    refine .tup (by rw [frzL_length]; exact q1) fun i hi => ?_
    rw [frzL_length] at hi
    rw [frzL_at _ _ _ _ _ hi]
    exact ih i hi (frzGL_at hg' hi)
  | u => exact fun _ => .u

mutual
theorem frzK_eq {k : Nat} {ow : Option Nat} {st : St} {K : Option ρ} : ∀ {v : AV}, frzG P k ow st v = true → frzK P k ow st v K = K
  | .sl id off len, h => by
    simp only [frzK, frzG] at h ⊢
    cases hk : keepI k ow id with
    | true => rfl
    | false =>
      rw [hk] at h
      simp only [cond_false, Bool.false_or] at h ⊢
      split at h
      · obtain ⟨h1, h2⟩ := Bool.and_eq_true_iff.1 h
        simp [h1, h2]
      · cases h
  | .gv _ e _, h => by simp only [frzG] at h; simp [frzK, h]
  | .agg cs, h => frzKL_eq (l := cs) h
  | .tup cs, h => frzKL_eq (l := cs) h
  | .b _, h => by simp only [frzG] at h; simp [frzK, h]
  | .i _ _, h => by simp only [frzG] at h; simp [frzK, h]
  | .s _, h => by simp only [frzG] at h; simp [frzK, h]
  | .nl, h => by simp only [frzG] at h; simp [frzK, h]
  | .rs _ _, h => by simp only [frzG] at h; simp [frzK, h]
  | .p _ _ _, h => by simp only [frzG] at h; simp [frzK, h]
  | .rp _ _ _, h => by simp only [frzG] at h; simp [frzK, h]
  | .np, h => by simp only [frzG] at h; simp [frzK, h]
  | .ln _, h => by simp only [frzG] at h; simp [frzK, h]
  | .fn _ _, h => by simp only [frzG] at h; simp [frzK, h]
  | .nf, h => by simp only [frzG] at h; simp [frzK, h]
  | .yl _, h => by simp only [frzG] at h; simp [frzK, h]
  | .ni, h => by simp only [frzG] at h; simp [frzK, h]
  | .nm, h => by simp only [frzG] at h; simp [frzK, h]
  | .ifc _ _, h => by simp only [frzG] at h; simp [frzK, h]
  | .e0 _, h => by simp only [frzG] at h; simp [frzK, h]
  | .sa _ _ _ _, h => by simp only [frzG] at h; simp [frzK, h]
  | .mp _, h => by simp only [frzG] at h; simp [frzK, h]
  | .it _, h => by simp only [frzG] at h; simp [frzK, h]
  | .u, h => by simp only [frzG] at h; simp [frzK, h]
theorem frzKL_eq {k : Nat} {ow : Option Nat} {st : St} {K : Option ρ} : ∀ {l : List AV}, frzGL P k ow st l = true → frzKL P k ow st l K = K
  | [], h => rfl
  | a :: l, h => by
    simp only [frzGL, Bool.and_eq_true] at h
    simp only [frzKL]
    rw [frzK_eq h.1, frzKL_eq h.2]
end
end Go.Ev

set_option linter.unusedVariables false
set_option linter.unusedSimpArgs false
namespace Go.Ev
open Go Go.RowKit

variable {P : Program} {w0 : Base} {X D : Nat → Nat → Prop} {R : Nat → Option (Nat × Nat × Nat)} {st : St} {a : Act} {w : World}
variable {ro : Option Nat} {n : Nat} {o : Oper} {next : Act → World → Prop} {Q : Exit → Act → World → Prop} {ρ : Type} {r : ρ} {site : Nat} {S : Spec} {RO : Nat → Bool}

def Fresh (R : Nat → Option (Nat × Nat × Nat)) (nx : Nat) : Prop := ∀ id, nx ≤ id → R id = none

theorem getD_bool {a : Act} {t : Nat} {x : Bool} (h : a.tmps.getD t undef = .bool x) : a.tmps[t]? = some (.bool x) := by
  rw [Array.getD_eq_getD_getElem?] at h
  cases ht : a.tmps[t]? with
  | none => rw [ht] at h; simp [undef] at h
  | some v => rw [ht] at h; simp at h; rw [h]

theorem dst_ok {o : Oper} {nt : Nat} (h : (o.dst.map (Nat.blt · nt)).getD true = true) : ∀ x, o.dst = some x → x < nt := by
  intro x hx
  rw [hx] at h
  simpa [Nat.blt_eq] using h

theorem put_defers (a : Act) (d : Option Nat) (v : Value) : (a.put d v).defers = a.defers := by cases d <;> rfl

theorem nd_nodup : ∀ {I : List Nat}, nd I = true → I.Nodup
  | [], _ => List.nodup_nil
  | a :: I, h => by
    simp only [nd, Bool.and_eq_true, Bool.not_eq_true'] at h
    refine List.nodup_cons.2 ⟨fun hm => ?_, nd_nodup h.2⟩
    rw [has_iff.2 hm] at h
    cases h.1
theorem nodup_inj : ∀ {I : List Nat} {i j : Nat}, I.Nodup → (hi : i < I.length) → (hj : j < I.length) → I[i] = I[j] → i = j
  | [], i, j, _, hi, _, _ => by simp at hi
  | a :: I, 0, 0, _, _, _, _ => rfl
  | a :: I, 0, j + 1, h, hi, hj, e => by
    have := (List.nodup_cons.1 h).1
    exact absurd (by simp at e; rw [e]; exact List.getElem_mem _) this
  | a :: I, i + 1, 0, h, hi, hj, e => by
    have := (List.nodup_cons.1 h).1
    exact absurd (by simp at e; rw [← e]; exact List.getElem_mem _) this
  | a :: I, i + 1, j + 1, h, hi, hj, e => by
    have := nodup_inj (List.nodup_cons.1 h).2 (by simpa using hi) (by simpa using hj) (by simpa using e)
    omega
theorem call_args (h : SR P w0 X D R st a w) (c : Call) {caps : List AV} {cv : Array Value} (c1 : cv.size = caps.length) (c2 : ∀ k, k < caps.length → VR P D R w (caps.getD k .u) (cv.getD k undef)) :
    (#[] ++ c.args.map a.eval ++ cv).size = (fitArgs P c.argTypes.toList (c.args.toList.map (val st)) ++ caps).length ∧
    ∀ k, k < (fitArgs P c.argTypes.toList (c.args.toList.map (val st)) ++ caps).length → VR P D R w ((fitArgs P c.argTypes.toList (c.args.toList.map (val st)) ++ caps).getD k .u) ((#[] ++ c.args.map a.eval ++ cv).getD k undef) := by
  refine ⟨by simp [fitArgs_length, c1], fun k hk => ?_⟩
  have hargs := args_at h c.args.toList
  have hv1 : ∀ k, k < (fitArgs P c.argTypes.toList (c.args.toList.map (val st))).length → VR P D R w ((fitArgs P c.argTypes.toList (c.args.toList.map (val st))).getD k .u) ((c.args.toList.map a.eval).getD k undef) := by
    intro k hk
    rw [fitArgs_length] at hk
    exact fitArgs_at _ _ _ hargs k hk
  have := app_at (v1 := c.args.toList.map a.eval) (v2 := cv.toList) (by simp [fitArgs_length]) hv1 (fun k hk => by
    have := c2 k hk
    simpa [Array.getD_eq_getD_getElem?, List.getD_eq_getElem?_getD] using this) k hk
  have e : (#[] ++ c.args.map a.eval ++ cv).getD k undef = (c.args.toList.map a.eval ++ cv.toList).getD k undef := by
    rw [Array.getD_eq_getD_getElem?, List.getD_eq_getElem?_getD, ← Array.getElem?_toList]
    simp
  rw [e]
  exact this

def AfterB (P : Program) (w0 : Base) (X : Nat → Nat → Prop) (R : Nat → Option (Nat × Nat × Nat)) (st : St) (a : Act) (o : Oper) (site : Nat) {ρ : Type} (K : St → Option ρ) (r : ρ) (next : Act → World → Prop) : Prop :=
  ∀ D' R' st' v' w', SR P w0 X D' R' st' (a.put o.dst v') w' → Fr R R' site → st'.nx = st.nx → st'.nt = st.nt → K st' = some r → next (a.put o.dst v') w'

theorem flatL_at : ∀ {l : List AV} {k : Nat}, flatL l = true → k < l.length → flatV (l.getD k .u) = true
  | [], k, _, hk => by simp at hk
  | a :: r, 0, h, _ => by simp only [flatL, Bool.and_eq_true] at h; simpa using h.1
  | a :: r, k + 1, h, hk => by
    simp only [flatL, Bool.and_eq_true] at h
    simpa using flatL_at h.2 (by simpa using hk)
theorem VR.flatAny {D' : Nat → Nat → Prop} {R' : Nat → Option (Nat × Nat × Nat)} {w' : World} {x : AV} {v : Value} (h : VR P D R w x v) : flatV x = true → VR P D' R' w' x v := by
  induction h with
  | b => exact fun _ => .b
  | i h1 h2 => exact fun _ => .i h1 h2
  | s h1 => exact fun _ => .s h1
  | nl => exact fun _ => .nl
  | np => exact fun _ => .np
  | nf => exact fun _ => .nf
  | ni => exact fun _ => .ni
  | nm => exact fun _ => .nm
  | ln h => exact fun _ => .ln h
  | agg h1 _ ih => exact fun hf => .agg h1 fun k hk => ih k hk (flatL_at (by simpa [flatV] using hf) hk)
  | tup h1 _ ih => exact fun hf => .tup h1 fun k hk => ih k hk (flatL_at (by simpa [flatV] using hf) hk)
  | _ => exact fun hf => by simp [flatV] at hf
theorem gm_newB {site : Nat} {I : List Nat} {f : Nat → Nat} {rows : List Blk} {m : List (Nat × Blk)} (h1 : I.length ≤ rows.length) (h2 : rows.length ≤ I.length + 1) (id : Nat) :
    gm (newB site ((rows.drop I.length).map (renB P f)) (putRows I ((rows.take I.length).map (renB P f)) m)) id =
      if id = site ∧ rows.length = I.length + 1 then renB P f (rows.getD I.length .dead) else if id ∈ I then renB P f (rows.getD (pos I id) .dead) else gm m id := by
  have hput : gm (putRows I ((rows.take I.length).map (renB P f)) m) id = if id ∈ I then renB P f (rows.getD (pos I id) .dead) else gm m id := by
    rw [gm_putRows (by simp; omega)]
    split
    · rename_i hid
      have := pos_lt hid
      simp [List.getD_eq_getElem?_getD, List.getElem?_take, this, show pos I id < rows.length by omega]
    · rfl
  by_cases hl : rows.length = I.length
  · have hd : rows.drop I.length = [] := List.drop_eq_nil_of_le (by omega)
    rw [hd]
    simp only [List.map_nil, newB]
    rw [hput]
    have : ¬ (id = site ∧ rows.length = I.length + 1) := fun h => by have := h.2; omega
    simp only [this, if_false]
  · have hl' : rows.length = I.length + 1 := by omega
    have hd : rows.drop I.length = [rows.getD I.length .dead] := by
      have hlt : I.length < rows.length := by omega
      have h2 : rows.drop (I.length + 1) = [] := List.drop_eq_nil_of_le (by omega)
      rw [List.drop_eq_getElem_cons hlt, h2]
      simp [List.getD_eq_getElem?_getD, hlt]
    rw [hd]
    simp only [List.map_cons, List.map_nil, newB, gm_cons, hl', and_true]
    by_cases hs : id = site
    · simp [hs]
    · simp only [hs, if_false]
      exact hput
theorem callM_sound {K : St → Option ρ} (hs : SpecOK P S) (h : SR P w0 X D R st a w) (hf : R site = none) (hb : ∀ x, o.dst = some x → x < st.nt) (hn : AfterB P w0 X R st a o site K r next) {c : Call} {f : Operand} (hop : o.op = .call c) (hc : c.callee = .value f)
    {g : FuncId} {caps : List AV} (hv : val st f = .fn g caps) (he : callM P S site o st g (fitArgs P c.argTypes.toList (c.args.toList.map (val st)) ++ caps) K = some r) : o.wpIn (FW ro) n P a w next Q := by
  have hd : ∀ c, o.op ≠ .defer c := by intro c hc; rw [hop] at hc; cases hc
  unfold callM at he
  simp only at he
  generalize reach P st 4 (addAll (idsL P (fitArgs P c.argTypes.toList (c.args.toList.map (val st)) ++ caps)) []) = I at he
  obtain ⟨hg, he⟩ := cond_some he
  simp only [Bool.and_eq_true] at hg
  obtain ⟨hnd, hokA, hokR⟩ := hg
  have hnd := nd_nodup hnd
  have hokR : ∀ id, id ∈ I → okB P (has I) (gm st.m id) = true := fun id hid => List.all_eq_true.1 hokR id hid
  split at he <;> first | (cases he; done) | skip
  rename_i pre v rows hS
  obtain ⟨hg2, he3⟩ := cond_some he
  simp only [Bool.and_eq_true] at hg2
  obtain ⟨hpre, ⟨hl1, hl2⟩, hokv, hokr, hgone⟩ := hg2
  have hl1 := Nat.le_of_ble_eq_true hl1
  have hl2 := Nat.le_of_ble_eq_true hl2
  have hcon := hs _ _ _ _ _ _ hS hpre
  obtain ⟨fn, hfn, hname, hbody⟩ := hcon.fn
  have hf' := h.val f
  rw [hv] at hf'
  generalize haf : a.eval f = fv at hf'
  cases hf' with
  | @fn _ _ cv c1 c2 =>
    have hbody' : fn.body.isNone = false := by cases hb' : fn.body <;> simp_all
    have hres : (resolve a.eval c o.type).run P w = .ok { target := .fn (.func g) cv, args := #[] ++ c.args.map a.eval } w := by
      simp [resolve, hc, Deferred.ofValue, haf]
    have hrun : (execOp a.eval o).run P w = .ok (.enter g (#[] ++ c.args.map a.eval ++ cv)) w := by
      simp only [execOp, hop, Sem.run_bind, hres, Result.andThen_ok, invoke, callFunc, run_program, hfn, hname, hbody', Bool.false_eq_true, if_false, Sem.run_pure]
    obtain ⟨a1, a2⟩ := call_args h c c1 c2
    generalize fitArgs P c.argTypes.toList (c.args.toList.map (val st)) ++ caps = args at *
    -- what is handed
    have hRp : ∀ id y, has I id = true → R id = some y → Rc R I (pos I id) = some y := fun id y hid e => (Rc_pos (has_iff.1 hid)).trans e
    have hrows : ∀ b, rowsOf (Rc R I) b → ∀ o, D b o := by
      rintro b ⟨j, s, e⟩ o
      unfold Rc at e
      split at e
      · rename_i id hj
        exact h.dom id b s o e ((okB_alive (hokR id (List.mem_of_getElem? hj))).2 s o)
      · cases e
    have hXD : ∀ b o, XR (fun b o => D b o ∧ ¬ rowsOf (Rc R I) b) (Rc R I) b o ↔ D b o := fun b o => by
      constructor
      · rintro (h | h)
        · exact h.1
        · exact hrows b h o
      · intro hd
        by_cases hr : rowsOf (Rc R I) b
        · exact .inr hr
        · exact .inl ⟨hd, hr⟩
    have toX : ∀ {R2 : Nat → Option (Nat × Nat × Nat)} {w2 : World} {x : AV} {v : Value}, VR P D R2 w2 x v → VR P (XR (fun b o => D b o ∧ ¬ rowsOf (Rc R I) b) (Rc R I)) R2 w2 x v := fun hv => hv.mono' (fun _ _ e => e) fun b o u hd hc => ⟨fun hx => hd ((hXD b o).1 hx), hc⟩
    have hC := hcon.callsN (fun b o => D b o ∧ ¬ rowsOf (Rc R I) b) (Rc R I) w (#[] ++ c.args.map a.eval ++ cv) (fun b o hx => h.lt b o hx.1) (fun id hid => by
        rw [List.length_map] at hid
        simp [Rc, List.getElem?_eq_none hid]) (fun id b s e => by
        have hr : rowsOf (Rc R I) b := ⟨id, s, e⟩
        unfold Rc at e
        split at e
        · rename_i id' hj
          have hm := List.mem_of_getElem? hj
          have hs := h.nz id' b s e ((okB_alive (hokR id' hm)).2 s)
          exact ⟨(h.own id' b s e hs).2, hs, fun o hx => hx.2 hr⟩
        · cases e) (fun id id' b s s' e e' => by
        unfold Rc at e e'
        split at e <;> first | (cases e; done) | skip
        rename_i i hi
        split at e' <;> first | (cases e'; done) | skip
        rename_i i' hi'
        have hm := hokR i (List.mem_of_getElem? hi)
        have hm' := hokR i' (List.mem_of_getElem? hi')
        have := h.inj i i' b s s' e e' (h.nz i b s e ((okB_alive hm).2 s)) (h.nz i' b s' e' ((okB_alive hm').2 s')) (okB_alive hm).1 (okB_alive hm').1
        subst this
        have g1 := List.getElem?_eq_some_iff.1 hi
        have g2 := List.getElem?_eq_some_iff.1 hi'
        obtain ⟨g1, g3⟩ := g1
        obtain ⟨g2, g4⟩ := g2
        exact nodup_inj hnd g1 g2 (g3.trans g4.symm)) (fun j hj => by
        rw [List.length_map] at hj
        have e1 : (I.map fun id => renB P (pos I) (gm st.m id)).getD j .dead = renB P (pos I) (gm st.m I[j]) := by simp [List.getD_eq_getElem?_getD, hj]
        rw [e1]
        have hm : I[j] ∈ I := List.getElem_mem hj
        have := (h.mem I[j]).ren hRp (id' := j) (fun y e => by simpa [Rc, hj] using e) (hokR _ hm)
        exact this.mono rfl (fun _ _ _ _ => rfl) fun _ _ => toX) (by rw [renL_length]; exact a1) (fun k hk => by
        rw [renL_length] at hk
        rw [renL_at _ _ _ hk]
        exact toX ((a2 k hk).ren hRp (okL_at hokA hk)))
    refine wpIn_enter hd hrun hC ?_
    rintro e w' ⟨v', R2, rfl, hA⟩
    refine ⟨v', rfl, ?_⟩
    have q_old := hA.old
    have q_none := hA.none
    have q_new := hA.new
    rw [List.length_map] at q_old q_new
    -- what may be written behind it
    have hD3 : ∀ b o, XR (fun b o => D b o ∧ ¬ rowsOf (Rc R I) b) R2 b o ↔ (D b o ∨ ∃ s, R2 I.length = some (b, s)) := fun b o => by
      constructor
      · rintro (h | ⟨j, s, e⟩)
        · exact .inl h.1
        · rcases Nat.lt_trichotomy j I.length with hj | rfl | hj
          · rw [q_old j hj] at e
            exact .inl (hrows b ⟨j, s, e⟩ o)
          · exact .inr ⟨s, e⟩
          · rw [q_none j (by omega)] at e; cases e
      · rintro (h | ⟨s, e⟩)
        · by_cases hr : rowsOf (Rc R I) b
          · obtain ⟨j, s, e⟩ := hr
            have hj : j < I.length := by
              rcases Nat.lt_or_ge j I.length with g | g
              · exact g
              · simp [Rc, List.getElem?_eq_none g] at e
            exact .inr ⟨j, s, (q_old j hj).trans e⟩
          · exact .inl ⟨h, hr⟩
        · exact .inr ⟨_, s, e⟩
    have ofX : ∀ {x : AV} {v : Value}, VR P (XR (fun b o => D b o ∧ ¬ rowsOf (Rc R I) b) R2) R2 w' x v → VR P (fun b o => D b o ∨ ∃ s, R2 I.length = some (b, s)) R2 w' x v := fun hv => hv.mono' (fun _ _ e => e) fun b o u hd hc => ⟨fun hx => hd ((hD3 b o).2 hx), hc⟩
    have hok' : ∀ j, j < rows.length → rows.getD j .dead = .dead ∨ okB P (Nat.blt · rows.length) (rows.getD j .dead) = true := fun j hj => by
      have hm : rows.getD j .dead ∈ rows := by simp [List.getD_eq_getElem?_getD, hj]
      have := List.all_eq_true.1 hokr _ hm
      simp only [Bool.or_eq_true] at this
      exact this.imp_left isDead_iff.1
    obtain ⟨hback, hS'⟩ := h.called hf hnd hokR hl1 hl2 (fun id hid hdead => goneOK_spec hgone hid (Nat.lt_of_lt_of_le (pos_lt hid) hl1) hdead) hok' q_old q_none q_new (fun j hj => (hA.row j hj).mono rfl (fun _ _ _ _ => rfl) fun _ _ => ofX) hA.below (fun id => gm_newB (P := P) (f := backS I site) (m := st.m) hl1 hl2 id)
    have hvv := (ofX hA.val).ren (R' := fun id => if id = site then R2 I.length else R id) (p := (Nat.blt · rows.length)) (f := backS I site) (fun j y hj e => hback j y (by simpa [Nat.blt_eq] using hj) e) hokv
    refine hn _ _ _ v' w' (hS'.put hb hvv) ⟨fun id hid => by simp [hid]⟩ ?_ ?_ he3
    · rw [put_nx]
    · rw [put_nt]
theorem callB_sound {K : St → Option ρ} (hs : SpecOK P S) (h : SR P w0 X D R st a w) (hb : ∀ x, o.dst = some x → x < st.nt) (hn : AfterB P w0 X R st a o site K r next) {c : Call} {f : Operand} (hop : o.op = .call c) (hc : c.callee = .value f)
    {g : FuncId} {caps : List AV} (hv : val st f = .fn g caps) {pre : Bool} {v : AV} (hS : S g (frzL 0 none st (fitArgs P c.argTypes.toList (c.args.toList.map (val st)) ++ caps)) [] = some (pre, v, []))
    (hfl : flatV v = true) (hg : frzGL P 0 none st (fitArgs P c.argTypes.toList (c.args.toList.map (val st)) ++ caps) = true) (he : cond pre (K (st.put o.dst v)) none = some r) : o.wpIn (FW ro) n P a w next Q := by
  have hd : ∀ c, o.op ≠ .defer c := by intro c hc; rw [hop] at hc; cases hc
  obtain ⟨hpre, he⟩ := cond_some he
  have hcon := hs _ _ _ _ _ _ hS hpre
  obtain ⟨fn, hfn, hname, hbody⟩ := hcon.fn
  have hf' := h.val f
  rw [hv] at hf'
  generalize haf : a.eval f = fv at hf'
  cases hf' with
  | @fn _ _ cv c1 c2 =>
    have hbody' : fn.body.isNone = false := by cases hb' : fn.body <;> simp_all
    have hres : (resolve a.eval c o.type).run P w = .ok { target := .fn (.func g) cv, args := #[] ++ c.args.map a.eval } w := by
      simp [resolve, hc, Deferred.ofValue, haf]
    have hrun : (execOp a.eval o).run P w = .ok (.enter g (#[] ++ c.args.map a.eval ++ cv)) w := by
      simp only [execOp, hop, Sem.run_bind, hres, Result.andThen_ok, invoke, callFunc, run_program, hfn, hname, hbody', Bool.false_eq_true, if_false, Sem.run_pure]
    obtain ⟨a1, a2⟩ := call_args h c c1 c2
    generalize fitArgs P c.argTypes.toList (c.args.toList.map (val st)) ++ caps = args at *
    -- for the while of the call the rows are the caller's own
    have hX1 : ∀ b o, XR (fun b o => D b o ∧ ¬ rowsOf R b) none2 b o → D b o := fun b o hx => (XR_none.1 hx).1
    have hS1 : SR P w0 (XR (fun b o => D b o ∧ ¬ rowsOf R b) none2) D R st a w :=
      ⟨h.tmp, h.nt, h.mem, h.own, fun id b s e o hR hs hm => ⟨fun hx => (XR_none.1 hx).2 ⟨id, s, hR⟩, (h.fx id b s e o hR hs hm).2⟩, h.dom, h.inj, h.nz, hX1, h.lt, h.old, h.df⟩
    have hC := hcon.plain (fun b o => D b o ∧ ¬ rowsOf R b) w (#[] ++ c.args.map a.eval ++ cv) (fun b o hx => h.lt b o hx.1) (by rw [frzL_length]; exact a1) (fun k hk => by
      rw [frzL_length] at hk
      rw [frzL_at _ _ _ _ _ hk]
      exact (frz_sound hS1 (fun id y hid e => by simp [keepI, Nat.blt_eq] at hid) (fun id b s _ _ e _ o hx => (XR_none.1 hx).2 ⟨id, s, e⟩) (a2 k hk) (frzGL_at hg hk)).xr_none)
    refine wpIn_enter hd hrun hC ?_
    rintro e w' ⟨v', rfl, hvv, hbw⟩
    refine ⟨v', rfl, ?_⟩
    refine hn D R _ v' w' ((h.world hbw).put hb (hvv.flatAny hfl)) .refl ?_ ?_ he
    · rw [put_nx]
    · rw [put_nt]

theorem growM_sound {K : St → Option ρ} (h : SR P w0 X D R st a w) (hf : R site = none) (hb : ∀ x, o.dst = some x → x < st.nt) (hn : AfterB P w0 X R st a o site K r next) {c : Call} (hop : o.op = .call c) (hc : c.callee = .builtin .append)
    {id : Nat} {e : TypeId} {es : List (List AV)} {y : AV} {t t' : TypeId} (hv : c.args.toList.map (val st) = [.gv id e es, y]) (hty : c.argTypes.toList = [t, t']) (he : growM P RO site o st t t' id e es (fitA P t' y) K = some r) : o.wpIn (FW ro) n P a w next Q := by
  have hd : ∀ c, o.op ≠ .defer c := by intro c hc; rw [hop] at hc; cases hc
  have key : ∃ xv yv, c.args.map a.eval = #[xv, yv] ∧ c.argTypes = #[t, t'] ∧ VR P D R w (.gv id e es) xv ∧ VR P D R w y yv := by
    have hl : c.args.toList.length = 2 := by have := congrArg List.length hv; simpa using this
    match hcl : c.args.toList, hl with
    | [p, q], _ =>
      rw [hcl] at hv
      simp only [List.map_cons, List.map_nil, List.cons.injEq, and_true] at hv
      refine ⟨a.eval p, a.eval q, ?_, ?_, hv.1 ▸ h.val p, hv.2 ▸ h.val q⟩
      · apply Array.ext'
        simp [hcl]
      · apply Array.ext'
        simpa using hty
  obtain ⟨xv, yv, ha1, ha2, hx, hy⟩ := key
  have hres : ∃ cs, (resolve a.eval c o.type).run P w = .ok { target := .builtin .append c.argTypes o.type cs, args := c.args.map a.eval } w := by
    simp only [resolve, hc, Sem.run_pure]
    exact ⟨_, rfl⟩
  obtain ⟨csb, hrb⟩ := hres
  have hrun : ∀ v w', (Builtin.append_ #[t, t'] o.type #[xv, yv]).run P w = .ok v w' → (execOp a.eval o).run P w = .ok (.value v) w' := fun v w' hr => by
    simp only [execOp, hop, Sem.run_bind, hrb, Result.andThen_ok, invoke, builtin, ha1, ha2, hr, Sem.run_pure]
  have hy2 := VR_fitA (P := P) t' hy
  unfold growM at he
  split at he <;> first | (cases he; done) | skip
  rename_i e2 e' ys e3 i hu hyy hm hin
  rw [hyy] at hy2
  obtain ⟨hg, he2⟩ := cond_some he
  simp only [Bool.and_eq_true] at hg
  obtain ⟨g1, g2, g3, g4, ⟨g5, g6, g7⟩, g8, g9⟩ := hg
  obtain rfl := Nat.eq_of_beq_eq_true g1
  obtain rfl := Nat.eq_of_beq_eq_true g2
  obtain rfl := Nat.eq_of_beq_eq_true g3
  obtain rfl := Nat.eq_of_beq_eq_true g4
  obtain ⟨hby, he3⟩ := cond_some he2
  cases hown : (es.isEmpty && (o.dst.map fun d => !RO (2000000 + d)).getD false) with
  | true =>
    rw [hown] at he3
    simp only [cond_true] at he3
    have hes : es = [] := List.isEmpty_iff.1 (Bool.and_eq_true_iff.1 hown).1
    subst hes
    have hx0 : ∃ xa, xv = .slice xa 0 0 := by
      cases hx with
      | gv0 => exact ⟨_, rfl⟩
      | gv h1 => exact absurd rfl h1
    obtain ⟨xa, rfl⟩ := hx0
    obtain ⟨D', R', v', w', q1, q2, q3, q4⟩ := own_nil (h.kill id) hf (ty := o.type) (xa := xa) hu hin g5 g8 g9 (by simpa using Nat.le_of_ble_eq_true hby) hy2
    refine wpIn_value hd (hrun _ _ q1) (hn D' R' _ v' w' (q2.put hb q3) q4 ?_ ?_ he3)
    · rw [put_nx]; rfl
    · rw [put_nt]; rfl
  | false =>
  rw [hown] at he3
  simp only [cond_false] at he3
  obtain ⟨D', R', v', w', q1, q2, q3, q4⟩ := grow_own h hf (ty := o.type) hu hin g5 g8 g9 (Nat.le_of_ble_eq_true hby) g6 hm hx hy2 (Nat.le_of_ble_eq_true g7)
  refine wpIn_value hd (hrun _ _ q1) (hn D' R' _ v' w' (q2.put hb q3) q4 ?_ ?_ he3)
  · rw [put_nx]; rfl
  · rw [put_nt]; rfl

theorem evDo_sound {K : St → Option ρ} (hs : SpecOK P S) (h : SR P w0 X D R st a w) (hf : R site = none) (hb : ∀ x, o.dst = some x → x < st.nt) (he : evDo P S RO site o st K = some r) (hn : AfterB P w0 X R st a o site K r next) : o.wpIn (FW ro) n P a w next Q := by
  have plain : (evOp P S RO site o st fun e => K (st.app o.dst e)) = some r → o.wpIn (FW ro) n P a w next Q := fun he =>
    evOp_sound hs h hf hb he fun D' R' e v' w' hS hR hK => hn D' R' _ v' w' hS hR (app_nx _ _) (app_nt _ _) hK
  unfold evDo at he
  cases hk : kd P o st with
  | plain =>
    rw [hk] at he
    simp only at he
    cases hnew : newOf P S o st with
    | none => rw [hnew] at he; exact plain he
    | some ga =>
      rw [hnew] at he
      simp only at he
      unfold newOf at hnew
      split at hnew <;> first | (cases hnew; done) | skip
      rename_i c hop
      split at hnew <;> first | (cases hnew; done) | skip
      rename_i f hc
      split at hnew <;> first | (cases hnew; done) | skip
      rename_i g caps hv
      split at hnew <;> first | (cases hnew; done) | skip
      cases hnew
      exact callM_sound hs h hf hb hn hop hc hv he
  | bad => rw [hk] at he; cases he
  | call g args =>
    rw [hk] at he
    unfold kd at hk
    split at hk <;> first | (cases hk; done) | skip
    rename_i c hop
    unfold kdC at hk
    split at hk <;> first | (cases hk; done) | skip
    · rename_i f hc
      split at hk <;> first | (cases hk; done) | skip
      rename_i g' caps hv
      cases hfr : freeL P 0 (fitArgs P c.argTypes.toList (c.args.toList.map (val st)) ++ caps) with
      | true => rw [hfr] at hk; cases hk
      | false =>
        rw [hfr] at hk
        simp only [cond_false, Kd.call.injEq] at hk
        obtain ⟨rfl, rfl⟩ := hk
        simp only at he
        split at he
        · rename_i pre v hS
          obtain hfl | hfl := Bool.eq_false_or_eq_true (flatV v)
          · rw [hfl] at he
            simp only [cond_true] at he
            obtain ⟨hg, he⟩ := frzKL_some he
            exact callB_sound hs h hb hn hop hc hv hS hfl hg he
          · rw [hfl] at he
            simp only [cond_false] at he
            exact callM_sound hs h hf hb hn hop hc hv he
        · exact callM_sound hs h hf hb hn hop hc hv he
    · split at hk <;> cases hk
  | grow t t' id e es y =>
    rw [hk] at he
    unfold kd at hk
    split at hk <;> first | (cases hk; done) | skip
    rename_i c hop
    unfold kdC at hk
    split at hk <;> first | (cases hk; done) | skip
    · split at hk <;> first | (cases hk; done) | skip
      rename_i g' caps hv
      cases hfr : freeL P 0 (fitArgs P c.argTypes.toList (c.args.toList.map (val st)) ++ caps) <;> rw [hfr] at hk <;> cases hk
    · rename_i hc
      split at hk <;> first | (cases hk; done) | skip
      rename_i id' e' es' y' t1 t2 hv hty
      simp only [Kd.grow.injEq] at hk
      obtain ⟨rfl, rfl, rfl, rfl, rfl, rfl⟩ := hk
      exact growM_sound h hf hb hn hop hc hv hty he

theorem evOpsB_sound (hs : SpecOK P S) {ops : Array Oper} {base : Nat} : ∀ (l : List Oper) (j : Nat) {st : St} {a : Act} {w : World} {D : Nat → Nat → Prop} {R : Nat → Option (Nat × Nat × Nat)} {K : St → Option ρ} {r : ρ}
    (hl : ∀ i, l[i]? = ops[j + i]?) (h : SR P w0 X D R st a w) (hf : Fresh R (base + j)) (he : evOpsB P S RO ops base l j st K = some r)
    (hn : ∀ D' R' st' a' w', SR P w0 X D' R' st' a' w' → Fresh R' (base + j + l.length) → (∀ id, id < base + j → R' id = R id) → a'.defers = a.defers → st'.nx = st.nx → st'.nt = st.nt → K st' = some r → Q .normal a' w'),
    wpOpsIn (FW ro) n P ops Q (List.range' j l.length) a w
  | [], j, st, a, w, D, R, K, r, hl, h, hf, he, hn => hn D R st a w h hf (fun _ _ => rfl) rfl rfl rfl he
  | o :: l, j, st, a, w, D, R, K, r, hl, h, hf, he, hn => by
    have ho : ops[j]? = some o := by have := hl 0; simpa using this.symm
    have hl' : ∀ i, l[i]? = ops[j + 1 + i]? := fun i => by
      have := hl (i + 1)
      simp only [List.getElem?_cons_succ] at this
      rw [this]; congr 1; omega
    simp only [evOpsB] at he
    obtain ⟨hdst, he⟩ := cond_some he
    have hb := dst_ok hdst
    simp only [List.length_cons, List.range'_succ, wpOpsIn, ho]
    -- performing, passing over
    have perform : ∀ {st0 : St}, SR P w0 X D R st0 a w → st0.nx = st.nx → st0.nt = st.nt → evDo P S RO (base + j) o st0 (fun s => evOpsB P S RO ops base l (j + 1) s K) = some r →
        o.wpIn (FW ro) n P a w (wpOpsIn (FW ro) n P ops Q (List.range' (j + 1) l.length)) Q := by
      intro st0 h0 hx ht he
      refine evDo_sound hs h0 (hf _ (Nat.le_refl _)) (by rw [ht]; exact hb) he fun D' R' st1 v' w' hS hR hx1 ht1 hK => ?_
      refine evOpsB_sound hs l (j + 1) hl' hS (fun id hid => by rw [hR.R id (by omega)]; exact hf id (by omega)) hK fun D'' R'' st'' a'' w'' hS' hf' hRR hdd hx' ht' hK' => ?_
      exact hn D'' R'' st'' a'' w'' hS' (by simpa [Nat.add_assoc, Nat.add_comm 1] using hf') (fun id hid => (hRR id (by omega)).trans (hR.R id (by omega))) (hdd.trans (put_defers _ _ _)) (hx'.trans (hx1.trans hx)) (ht'.trans (ht1.trans ht)) hK'
    have pass : ∀ {st0 : St}, SR P w0 X D R st0 a w → st0.nx = st.nx → st0.nt = st.nt → evOpsB P S RO ops base l (j + 1) (st0.put o.dst (.tup [])) K = some r →
        (∀ f, o.about P w a.eval = some f → (FW ro).fn f) ∧ wpOpsIn (FW ro) n P ops Q (List.range' (j + 1) l.length) (a.put o.dst undef) w := by
      intro st0 h0 hx ht he
      refine ⟨fun _ _ => trivial, evOpsB_sound hs l (j + 1) hl' (h0.put (by rw [ht]; exact hb) VR_undef) (fun id hid => hf id (by omega)) he fun D'' R'' st'' a'' w'' hS' hf' hRR hdd hx' ht' hK' => ?_⟩
      exact hn D'' R'' st'' a'' w'' hS' (by simpa [Nat.add_assoc, Nat.add_comm 1] using hf') (fun id hid => hRR id (by omega)) (hdd.trans (put_defers _ _ _)) (hx'.trans ((put_nx _ _).trans hx)) (ht'.trans ((put_nt _ _).trans ht)) hK'
    cases hg : o.guard with
    | none =>
      rw [hg] at he
      have hw : Region.wanted o (yielded ops a.tmps) = true := by simp [Region.wanted, hg]
      rw [if_pos hw]
      exact perform h rfl rfl he
    | some gw =>
      obtain ⟨g, want⟩ := gw
      rw [hg] at he
      simp only at he
      cases htg : (ops[g]?).bind (·.dst) with
      | none => rw [htg] at he; cases he
      | some tg =>
        rw [htg] at he
        simp only at he
        have hv := h.tmp tg
        split at he
        · rename_i x hx
          rw [hx] at hv
          have hb1 := hv.bool_inv
          have hb2 := getD_bool hb1
          have hy : yielded ops a.tmps g = some x := by simp [yielded, htg, hb2]
          have hwant : Region.wanted o (yielded ops a.tmps) = (x == want) := by simp [Region.wanted, hg, hy]
          cases x
          · simp only [cond_false] at he
            have hk := h.know (d := tg) (v := .b false) (by rw [hb1]; exact .b)
            cases want
            · rw [if_pos (by rw [hwant]; rfl)]
              exact perform hk rfl rfl he
            · rw [if_neg (by rw [hwant]; decide)]
              exact pass hk rfl rfl he
          · simp only [cond_true] at he
            have hk := h.know (d := tg) (v := .b true) (by rw [hb1]; exact .b)
            cases want
            · rw [if_neg (by rw [hwant]; decide)]
              exact pass hk rfl rfl he
            · rw [if_pos (by rw [hwant]; rfl)]
              exact perform hk rfl rfl he
        · rename_i hx
          rw [hx] at hv
          have hy : yielded ops a.tmps g = none := by
            generalize hq : a.tmps.getD tg Go.undef = q at hv
            cases hv with
            | tup h1 _ =>
              simp only [yielded, htg, Option.bind_some]
              rw [Array.getD_eq_getD_getElem?] at hq
              cases ht : a.tmps[tg]? with
              | none => rfl
              | some z => rw [ht] at hq; simp at hq; subst hq; rfl
          have hwant : Region.wanted o (yielded ops a.tmps) = false := by simp [Region.wanted, hg, hy]
          rw [if_neg (by rw [hwant]; decide)]
          exact pass h rfl rfl he
        · cases he
end Go.Ev

set_option linter.unusedVariables false
set_option linter.unusedSimpArgs false
namespace Go.Ev
open Go Go.RowKit

variable {P : Program} {w0 : Base} {X D : Nat → Nat → Prop} {R : Nat → Option (Nat × Nat × Nat)} {st : St} {a : Act} {w : World}
variable {ro : Option Nat} {n : Nat} {Q : Exit → Act → World → Prop} {ρ : Type} {S : Spec} {RO : Nat → Bool}

def lastOf {β : Type} (f : Nat → Option β) : Nat → Option β
  | 0 => none
  | n + 1 => match f n with
    | some b => some b
    | none => lastOf f n
theorem lastOf_congr {β : Type} {f g : Nat → Option β} : ∀ {n : Nat}, (∀ i, i < n → f i = g i) → lastOf f n = lastOf g n
  | 0, _ => rfl
  | n + 1, h => by simp only [lastOf]; rw [h n (by omega), lastOf_congr fun i hi => h i (by omega)]
theorem lastOf_upto {β : Type} {f : Nat → Option β} {j : Nat} : ∀ {n : Nat}, j ≤ n → (∀ i, j ≤ i → i < n → f i = none) → lastOf f n = lastOf f j
  | 0, hj, _ => by have : j = 0 := by omega
                   rw [this]
  | n + 1, hj, h => by
    by_cases e : j = n + 1
    · rw [e]
    · simp only [lastOf]
      rw [h n (by omega) (by omega)]
      exact lastOf_upto (by omega) fun i h1 h2 => h i h1 (by omega)
theorem lastOf_at {β : Type} {f : Nat → Option β} {j n : Nat} {b : β} (hj : j < n) (hb : f j = some b) (h : ∀ i, j < i → i < n → f i = none) : lastOf f n = some b := by
  rw [lastOf_upto (j := j + 1) (by omega) fun i h1 h2 => h i (by omega) h2]
  simp [lastOf, hb]

structure Eqv (s s' : St) : Prop where
  t : ∀ x, gt s.t x = gt s'.t x
  m : ∀ id, gm s.m id = gm s'.m id
  nx : s.nx = s'.nx
  nt : s.nt = s'.nt
theorem Eqv.refl (s : St) : Eqv s s := ⟨fun _ => rfl, fun _ => rfl, rfl, rfl⟩
theorem Eqv.trans {s s' s'' : St} (h : Eqv s s') (h' : Eqv s' s'') : Eqv s s'' := ⟨fun x => (h.t x).trans (h'.t x), fun x => (h.m x).trans (h'.m x), h.nx.trans h'.nx, h.nt.trans h'.nt⟩
theorem Eqv.symm {s s' : St} (h : Eqv s s') : Eqv s' s := ⟨fun x => (h.t x).symm, fun x => (h.m x).symm, h.nx.symm, h.nt.symm⟩
theorem Eqv.sr {s s' : St} (h : Eqv s s') (hs : SR P w0 X D R s a w) : SR P w0 X D R s' a w := by
  refine { hs with tmp := ?_, nt := ?_, mem := ?_, fx := ?_, dom := ?_, inj := ?_, nz := ?_, df := hs.df }
  · intro t; rw [← h.t]; exact hs.tmp t
  · rw [← h.nt]; exact hs.nt
  · intro id; rw [← h.m]; exact hs.mem id
  · intro id b s et o e h1 hm; rw [← h.m] at hm; exact hs.fx id b s et o e h1 hm
  · intro id b s o e ho; rw [← h.m] at ho; exact hs.dom id b s o e ho
  · intro id id' b s s' e e' h1 h2 a1 a2; rw [← h.m] at a1 a2; exact hs.inj id id' b s s' e e' h1 h2 a1 a2
  · intro id b s e ho; exact hs.nz id b s e fun o => by rw [h.m]; exact ho o
theorem Eqv.val {s s' : St} (h : Eqv s s') (x : Operand) : val s x = val s' x := by cases x <;> simp [Ev.val, h.t]
theorem app_t (s : St) (d : Option Nat) (e : Eff) (x : Nat) : gt (s.app d e).t x = if d = some x then e.v else gt s.t x := by
  unfold St.app
  cases d with
  | none => cases hm : e.m <;> simp [St.put, St.mem]
  | some d =>
    cases hm : e.m <;> simp only [St.put, St.mem, gt_cons, Option.some.injEq, eq_comm]
theorem app_m (s : St) (d : Option Nat) (e : Eff) (id : Nat) : gm (s.app d e).m id = match e.m with | some (i, b) => if i = id then b else gm s.m id | none => gm s.m id := by
  unfold St.app
  cases hm : e.m with
  | none => cases d <;> simp [St.put]
  | some p => cases d <;> simp only [St.put, St.mem, gm_cons, eq_comm]
theorem Eqv.app {s s' : St} (h : Eqv s s') (d : Option Nat) (e : Eff) : Eqv (s.app d e) (s'.app d e) :=
  ⟨fun x => by rw [app_t, app_t, h.t], fun x => by rw [app_m, app_m, h.m], by rw [app_nx, app_nx]; exact h.nx, by rw [app_nt, app_nt]; exact h.nt⟩
theorem put_know {s : St} {t : Nat} {v : AV} (h : gt s.t t = v) : Eqv (s.put (some t) v) s :=
  ⟨fun x => by simp only [St.put, gt_cons]; split <;> simp_all, fun _ => rfl, rfl, rfl⟩

theorem cond_bind {α ρ : Type} (c : Bool) (x y : Option α) (K : α → Option ρ) : (cond c x y).bind K = cond c (x.bind K) (y.bind K) := by cases c <;> rfl
theorem binI_bind (op : BinOp) (k : IntKind) (x y : Int) (K : AV → Option ρ) : binI op k x y K = (binI op k x y some).bind K := by
  cases op <;> simp [binI, cond_bind]
theorem binH_bind (op : BinOp) (k : IntKind) (x y : Int) (K : AV → Option ρ) : binH op k x y K = (binH op k x y some).bind K := by
  cases op <;> simp [binH, cond_bind]
theorem binS_bind (op : BinOp) (x y : ByteArray) (K : AV → Option ρ) : binS op x y K = (binS op x y some).bind K := by
  cases op <;> simp [binS, cond_bind]
theorem binN_bind (op : BinOp) (t : TypeId) (b : Bool) (K : AV → Option ρ) : binN P op t b K = (binN P op t b some).bind K := by
  unfold binN
  split <;> rfl
theorem bin_bind (op : BinOp) (t : TypeId) (x y : AV) (K : AV → Option ρ) : bin P op t x y K = (bin P op t x y some).bind K := by
  unfold bin
  split
  · rw [cond_bind, cond_bind, ← binI_bind, ← binH_bind]; rfl
  · exact binS_bind ..
  · split <;> simp
  · split <;> simp [cond_bind]
  · exact binN_bind ..
  · exact binN_bind ..
  · exact binN_bind ..
  · rfl
theorem bin_bind' {α : Type} (op : BinOp) (t : TypeId) (x y : AV) (f : AV → α) (K : α → Option ρ) : bin P op t x y (fun v => K (f v)) = (bin P op t x y fun v => some (f v)).bind K := by
  rw [bin_bind, bin_bind (K := fun v => some (f v)), Option.bind_assoc]; rfl
theorem look_bind' {α : Type} (st : St) (t : TypeId) (x : AV) (f : AV → α) (K : α → Option ρ) : look P st t x (fun v => K (f v)) = (look P st t x fun v => some (f v)).bind K := by
  unfold look
  split
  · simp [cond_bind]
  · split <;> simp [cond_bind]
  · rfl
theorem fresh_bind (site : Nat) (dst : Option Nat) (t : TypeId) (cs : List AV) (K : Eff → Option ρ) : fresh P RO site dst t cs K = (fresh P RO site dst t cs some).bind K := by
  simp [fresh, cond_bind]
theorem freshL_bind (site : Nat) (dst : Option Nat) (t : TypeId) (cs : List AV) (K : Eff → Option ρ) : freshL P RO site dst t cs K = (freshL P RO site dst t cs some).bind K := by
  simp [freshL, cond_bind]
theorem freshRow_bind (site : Nat) (dst : Option Nat) (t : TypeId) (es : List (List AV)) (K : Eff → Option ρ) : freshRow P RO site dst t es K = (freshRow P RO site dst t es some).bind K := by
  simp [freshRow, cond_bind]
theorem grown_bind (site : Nat) (own : Bool) (e t t' : TypeId) (x y : AV) (K : Eff → Option ρ) : grown P site own e t t' x y K = (grown P site own e t t' x y some).bind K := by
  unfold grown
  split
  · rw [cond_bind]
    congr 1
    split <;> simp [cond_bind]
  · rfl
theorem grown_eff {site : Nat} {own : Bool} {e t t' : TypeId} {x y : AV} {ef : Eff} (h : grown P site own e t t' x y some = some ef) : ∃ b, ef.m = some (site, b) := by
  unfold grown at h
  split at h
  · obtain ⟨_, h⟩ := cond_some h
    split at h
    · obtain ⟨_, h⟩ := cond_some h
      obtain ⟨_, h⟩ := cond_some h
      cases h
      cases own <;> exact ⟨_, rfl⟩
    · cases h
  · cases h
theorem grown_eff' {site : Nat} {own : Bool} {e t t' : TypeId} {x y : AV} {ef : Eff} {st : St} {o : Oper} (hs : isStore o = false) (h : grown P site own e t t' x y some = some ef) :
    ef.m = none ∨ (isStore o = false ∧ ∃ b, ef.m = some (site, b)) ∨ (isStore o = true ∧ ∃ id b, acc o st = some id ∧ ef.m = some (id, b)) := .inr (.inl ⟨hs, grown_eff h⟩)
theorem copyV_bind (st : St) (t : TypeId) (id off len : Nat) (y : AV) (K : Eff → Option ρ) : copyV P st t id off len y K = (copyV P st t id off len y some).bind K := by
  unfold copyV
  split
  · rw [srcK_eq, srcK_eq]
    split
    · simp [cond_bind]
    · rfl
  · rfl
theorem evOp_bind (site : Nat) (o : Oper) (st : St) (K : Eff → Option ρ) : evOp P S RO site o st K = (evOp P S RO site o st some).bind K := by
  unfold evOp
  cases hop : o.op <;> simp only [bin_bind' (f := fun v => (⟨v, none⟩ : Eff)) (K := K), look_bind' (f := fun v => (⟨v, none⟩ : Eff)) (K := K), fresh_bind (K := K), freshL_bind (K := K), freshRow_bind (K := K), grown_bind (K := K), copyV_bind (K := K)] <;> (repeat' split) <;> (first | rfl | (simp [cond_bind]; done) | skip)

theorem bin_none {op : BinOp} {t : TypeId} {x y : AV} {e : Eff} (h : bin P op t x y (fun v => some ⟨v, none⟩) = some e) : e.m = none := by
  rw [bin_bind] at h
  obtain ⟨v, _, hv⟩ := Option.bind_eq_some_iff.1 h
  cases hv; rfl
theorem look_none {st : St} {t : TypeId} {x : AV} {e : Eff} (h : look P st t x (fun v => some ⟨v, none⟩) = some e) : e.m = none := by
  have := look_bind' (P := P) (f := id) (α := AV) (K := fun v => some (⟨v, none⟩ : Eff)) st t x
  simp only [id] at this
  rw [this] at h
  obtain ⟨v, _, hv⟩ := Option.bind_eq_some_iff.1 h
  cases hv; rfl
theorem fresh_eff {site : Nat} {dst : Option Nat} {t : TypeId} {cs : List AV} {e : Eff} (h : fresh P RO site dst t cs some = some e) : e.m = none ∨ ∃ b, e.m = some (site, b) := by
  unfold fresh at h
  obtain ⟨_, h⟩ := cond_some h
  cases hc : (dst.map RO).getD false <;> rw [hc] at h <;> cases h
  · exact .inr ⟨_, rfl⟩
  · exact .inl rfl
theorem cond2_none {c : Bool} {x y : AV} {e : Eff} (h : (bif c then some (⟨x, none⟩ : Eff) else some ⟨y, none⟩) = some e) : e.m = none := by
  cases c <;> (cases h; rfl)
theorem cond1_none {c : Bool} {x : AV} {e : Eff} (h : (bif c then none else some (⟨x, none⟩ : Eff)) = some e) : e.m = none := by
  cases c <;> (cases h; try rfl)
theorem cond_either {α : Type} {c : Bool} {a b : Option α} {e : α} (h : cond c a b = some e) : a = some e ∨ b = some e := by
  cases c
  · exact .inr h
  · exact .inl h
theorem freshL_eff' {site : Nat} {dst : Option Nat} {t : TypeId} {cs : List AV} {e : Eff} {o : Oper} (hs : isStore o = false) (h : freshL P RO site dst t cs some = some e) :
    e.m = none ∨ (isStore o = false ∧ ∃ b, e.m = some (site, b)) ∨ (isStore o = true ∧ ∃ id b, acc o st = some id ∧ e.m = some (id, b)) := by
  unfold freshL at h
  obtain ⟨_, h⟩ := cond_some h
  cases hro : (dst.map RO).getD false with
  | true => rw [hro] at h; cases h
  | false =>
    rw [hro] at h
    cases h
    exact .inr (.inl ⟨hs, _, rfl⟩)
theorem freshRow_eff' {site : Nat} {dst : Option Nat} {t : TypeId} {es : List (List AV)} {e : Eff} {o : Oper} (hs : isStore o = false) (h : freshRow P RO site dst t es some = some e) :
    e.m = none ∨ (isStore o = false ∧ ∃ b, e.m = some (site, b)) ∨ (isStore o = true ∧ ∃ id b, acc o st = some id ∧ e.m = some (id, b)) := by
  unfold freshRow at h
  obtain ⟨_, h⟩ := cond_some h
  cases hm : es.isEmpty <;> rw [hm] at h
  · simp only [cond_false] at h
    cases hc : (dst.map RO).getD false <;> rw [hc] at h <;> cases h
    · exact .inr (.inl ⟨hs, _, rfl⟩)
    · exact .inl rfl
  · cases h; exact .inl rfl
theorem fresh_eff' {site : Nat} {dst : Option Nat} {t : TypeId} {cs : List AV} {e : Eff} {o : Oper} (hs : isStore o = false) (h : fresh P RO site dst t cs some = some e) :
    e.m = none ∨ (isStore o = false ∧ ∃ b, e.m = some (site, b)) ∨ (isStore o = true ∧ ∃ id b, acc o st = some id ∧ e.m = some (id, b)) :=
  (fresh_eff h).imp_right fun ⟨b, h⟩ => .inl ⟨hs, b, h⟩
theorem copyV_eff {st : St} {t : TypeId} {id off len : Nat} {y : AV} {e : Eff} (h : copyV P st t id off len y some = some e) : ∃ b, e.m = some (id, b) := by
  unfold copyV at h
  split at h <;> first | (cases h; done) | skip
  rw [srcK_eq] at h
  split at h <;> first | (cases h; done) | skip
  obtain ⟨_, h⟩ := cond_some h
  cases h
  exact ⟨_, rfl⟩
theorem copyV_eff' {site : Nat} {st : St} {t : TypeId} {id off len : Nat} {y : AV} {e : Eff} {o : Oper} (hs : isStore o = true) (ha : acc o st = some id) (h : copyV P st t id off len y some = some e) :
    e.m = none ∨ (isStore o = false ∧ ∃ b, e.m = some (site, b)) ∨ (isStore o = true ∧ ∃ id b, acc o st = some id ∧ e.m = some (id, b)) := by
  obtain ⟨b, hb⟩ := copyV_eff h
  exact .inr (.inr ⟨hs, id, b, ha, hb⟩)
theorem copyV_congr {st st' : St} {t : TypeId} {id off len : Nat} {y : AV} {K : Eff → Option ρ} (h : gm st.m id = gm st'.m id) : copyV P st t id off len y K = copyV P st' t id off len y K := by
  unfold copyV
  rw [h]
theorem evOp_eff {site : Nat} {o : Oper} {st : St} {e : Eff} (h : evOp P S RO site o st some = some e) :
    e.m = none ∨ (isStore o = false ∧ ∃ b, e.m = some (site, b)) ∨ (isStore o = true ∧ ∃ id b, acc o st = some id ∧ e.m = some (id, b)) := by
  unfold evOp at h
  cases hop : o.op
  case makeSlice t l c =>
    simp only [hop] at h
    split at h <;> first | (cases h; done) | skip
    split at h <;> first | (cases h; done) | skip
    obtain ⟨_, h⟩ := cond_some h
    cases h
    exact .inr (.inl ⟨by simp [isStore, hop], _, rfl⟩)
  case makeMap t rs =>
    simp only [hop] at h
    cases rs with
    | some _ => cases h
    | none =>
      simp only at h
      split at h <;> first | (cases h; done) | skip
      obtain ⟨_, h⟩ := cond_some h
      cases h
      exact .inr (.inl ⟨by simp [isStore, hop], _, rfl⟩)
  case lookup t x ix ok =>
    simp only [hop] at h
    split at h <;> first | (cases h; done) | skip
    split at h <;> first | (cases h; done) | skip
    split at h <;> first | (cases h; done) | skip
    obtain ⟨_, h⟩ := cond_some h
    cases ok <;> (cases h; exact .inl rfl)
  case mapUpdate t x k v =>
    simp only [hop] at h
    split at h <;> first | (cases h; done) | skip
    rename_i hv
    split at h <;> first | (cases h; done) | skip
    split at h <;> first | (cases h; done) | skip
    obtain ⟨_, h⟩ := cond_some h
    cases h
    exact .inr (.inr ⟨by simp [isStore, hop], _, _, by simp [acc, hop, hv], rfl⟩)
  case range t x =>
    simp only [hop] at h
    split at h <;> first | (cases h; done) | skip
    cases h
    exact .inr (.inl ⟨by simp [isStore, hop], _, rfl⟩)
  case next x b =>
    simp only [hop] at h
    cases b with
    | false => cases h
    | true =>
      simp only at h
      split at h <;> first | (cases h; done) | skip
      rename_i id hv
      split at h <;> first | (cases h; done) | skip
      rename_i s p hm
      cases hb : Nat.blt p s.size <;> rw [hb] at h <;> cases h
      · exact .inr (.inr ⟨by simp [isStore, hop], id, _, by simp [acc, hop, hv], rfl⟩)
      · exact .inr (.inr ⟨by simp [isStore, hop], id, _, by simp [acc, hop, hv], rfl⟩)
  all_goals simp only [hop] at h <;> (try (cases h; done)) <;> (repeat' split at h) <;>
    (first
      | (cases h; done) | (exfalso; injections; done) | (cases h; exact .inl rfl) | (exact .inl (bin_none h)) | (exact .inl (look_none h)) | (exact .inl (cond2_none h)) | (exact .inl (cond1_none h)) | (obtain ⟨_, h⟩ := cond_some h; exact .inl (cond2_none h)) | (obtain ⟨_, h⟩ := cond_some h; cases h; exact .inl rfl)
      | (obtain ⟨_, h⟩ := cond_some h; obtain ⟨_, h⟩ := cond_some h; cases h; exact .inl rfl)
      | (obtain ⟨_, h⟩ := cond_some h; obtain ⟨_, h⟩ := cond_some h; cases h; exact .inr (.inl ⟨by simp [isStore, hop], _, rfl⟩))
      | (obtain ⟨_, h⟩ := cond_some h; cases h; done)
      | (exact fresh_eff' (by simp [isStore, hop]) h)
      | (rcases cond_either h with h | h <;> first | (cases h; done) | exact fresh_eff' (by simp [isStore, hop]) h | exact freshL_eff' (by simp [isStore, hop]) h)
      | (exact grown_eff' (by simp [isStore, hop, isCopy, *]) h)
      | (exact copyV_eff' (by simp [isStore, hop, isCopy, *]) (by simp [acc, hop, isCopy, *]) h)
      | (obtain ⟨_, h⟩ := cond_some h; cases h; exact .inr (.inl ⟨(by simp [isStore, hop] : isStore o = false), _, (rfl : some (site, _) = some (site, _))⟩))
      | (obtain ⟨_, h⟩ := cond_some h; (repeat' split at h) <;> first | (cases h; done) | exact freshRow_eff' (by simp [isStore, hop]) h)
      | (obtain ⟨_, h⟩ := cond_some h; cases h; exact .inr (.inr ⟨by simp [isStore, hop], _, _, by simp [acc, hop, *], rfl⟩))
      | (rename_i heq _ _ _ _ _; cases heq; done) | skip)
theorem look_congr {st st' : St} {t : TypeId} {x : AV} {K : AV → Option ρ} (h : ∀ id i j, x = .p id i j → gm st.m id = gm st'.m id) : look P st t x K = look P st' t x K := by
  unfold look
  cases x <;> try rfl
  · rename_i id i j
    simp only [h id i j rfl]
set_option maxHeartbeats 1000000 in
theorem evOp_congr {site : Nat} {o : Oper} {st st' : St} {K : Eff → Option ρ} (hv : ∀ x, x ∈ o.op.operands → val st x = val st' x) (ha : ∀ id, acc o st = some id → gm st.m id = gm st'.m id) :
    evOp P S RO site o st K = evOp P S RO site o st' K := by
  have hargs : ∀ c : Call, o.op = .call c → c.args.toList.map (val st) = c.args.toList.map (val st') := fun c hc =>
    List.map_congr_left fun x hx => hv x (by rw [hc]; simp only [Op.operands, Call.operands]; exact Array.mem_append.2 (.inr (by simpa using hx)))
  unfold evOp
  cases hop : o.op <;> simp only [hop, Op.operands] at hv <;> simp only <;> (first | rfl | (simp [hv]; done) | skip)
  case build t parts =>
    have : List.map (fun p => (p.1, val st p.2)) parts.toList = List.map (fun p => (p.1, val st' p.2)) parts.toList :=
      List.map_congr_left fun p hp => by rw [hv p.2 (by simpa using ⟨p.1, by simpa using hp⟩)]
    rw [this]
  case buildSlice t n parts =>
    have : List.map (fun p => (p.1, val st p.2)) parts.toList = List.map (fun p => (p.1, val st' p.2)) parts.toList :=
      List.map_congr_left fun p hp => by rw [hv p.2 (by simpa using ⟨p.1, by simpa using hp⟩)]
    rw [this]
  case load t x =>
    rw [← hv x (by simp)]
    exact look_congr fun id i j e => ha id (by simp [acc, hop, e])
  case store t x v =>
    rw [← hv x (by simp), ← hv v (by simp)]
    have key : ∀ id i j, val st x = .p id i j → gm st.m id = gm st'.m id := fun id i j e => ha id (by simp [acc, hop, e])
    generalize val st x = vx at key
    cases vx <;> first | rfl | simp only [key _ _ _ rfl]
  case unOp k t x =>
    cases k <;> simp only [hv x (by simp)]
  case indexAddr t x ix =>
    rw [← hv x (by simp), ← hv ix (by simp)]
    have key : ∀ id i j, val st x = .sl id i j → gm st.m id = gm st'.m id := fun id i j e => ha id (by simp [acc, hop, e])
    generalize val st x = vx at key
    generalize val st ix = vi
    cases P.underlying t with
    | none => rfl
    | some d => cases d <;> first | rfl | (cases vx <;> first | rfl | (cases vi <;> first | rfl | simp only [key _ _ _ rfl]))
  case lookup t x ix ok =>
    rw [← hv x (by simp), ← hv ix (by simp)]
    have key : ∀ id, val st x = .mp id → gm st.m id = gm st'.m id := fun id e => ha id (by simp [acc, hop, e])
    generalize val st x = vx at key
    generalize val st ix = vi
    cases P.underlying t with
    | none => rfl
    | some d => cases d <;> first | rfl | (cases vx <;> first | rfl | simp only [key _ rfl])
  case mapUpdate t x k v =>
    rw [← hv x (by simp), ← hv k (by simp), ← hv v (by simp)]
    have key : ∀ id, val st x = .mp id → gm st.m id = gm st'.m id := fun id e => ha id (by simp [acc, hop, e])
    generalize val st x = vx at key
    generalize val st k = vk
    generalize val st v = vv
    cases P.underlying t with
    | none => rfl
    | some d => cases d <;> first | rfl | (cases vx <;> first | rfl | simp only [key _ rfl])
  case next x b =>
    cases b with
    | false => rfl
    | true =>
      simp only
      rw [← hv x (by simp)]
      have key : ∀ id, val st x = .it id → gm st.m id = gm st'.m id := fun id e => ha id (by simp [acc, hop, e])
      generalize val st x = vx at key
      cases vx <;> first | rfl | simp only [key _ rfl]
  case makeMap t rs =>
    cases rs <;> rfl
  case slice t x l h m =>
    cases m with
    | some m =>
      cases l with
      | none => rfl
      | some l =>
        cases h with
        | none => rfl
        | some h =>
          simp only
          rw [← hv x (by simp), ← hv l (by simp), ← hv h (by simp), ← hv m (by simp)]
    | none =>
      have h1 : ∀ d, numOf st d l = numOf st' d l := fun d => by cases l <;> simp [numOf]; exact hv _ (by simp)
      have h2 : ∀ d, numOf st d h = numOf st' d h := fun d => by cases h <;> simp [numOf]; exact hv _ (by simp)
      simp only [h1, h2]
      rw [← hv x (by simp)]
      have key : ∀ id i j, val st x = .sl id i j → gm st.m id = gm st'.m id := fun id i j e => ha id (by simp [acc, hop, e])
      generalize val st x = vx at key
      cases P.underlying t with
      | none => rfl
      | some d => cases d <;> first | rfl | (cases vx <;> first | rfl | simp only [key _ _ _ rfl])
  case makeFunc f first caps =>
    cases f with
    | func f =>
      have : caps.toList.map (val st) = caps.toList.map (val st') := List.map_congr_left fun x hx => hv x (Array.mem_append.2 (.inr (by simpa using hx)))
      simp only [this]
    | _ => rfl
  case call c =>
    cases hc : c.callee with
    | value f =>
      have := hv f (by simp [Call.operands, hc])
      simp only [this, hargs c hop]
    | builtin b =>
      cases b <;> simp only [hargs c hop]
      case copy =>
        have key : ∀ id i j y, c.args.toList.map (val st') = [.sl id i j, y] → gm st.m id = gm st'.m id := fun id i j y e => ha id (by simp only [acc, hop, isCopy, hc, cond_true, hargs c hop, e])
        split <;> try rfl
        rename_i id off len y t t' e _
        exact copyV_congr (key _ _ _ _ e)
    | invoke r m => rfl
end Go.Ev

set_option linter.unusedVariables false
set_option linter.unusedSimpArgs false
namespace Go.Ev
open Go Go.RowKit

variable {P : Program} {w0 : Base} {X D : Nat → Nat → Prop} {R : Nat → Option (Nat × Nat × Nat)} {st : St} {a : Act} {w : World}
variable {ro : Option Nat} {n : Nat} {Q : Exit → Act → World → Prop} {ρ : Type} {S : Spec} {RO : Nat → Bool}

def Does (P : Program) (S : Spec) (RO : Nat → Bool) (ops : Array Oper) (site : Nat) (o : Oper) (st : St) (e : Eff) : Prop :=
  (o.guard = none ∧ evOp P S RO site o st some = some e) ∨
  (∃ g want tg, o.guard = some (g, want) ∧ (ops[g]?).bind (·.dst) = some tg ∧
    ((gt st.t tg = .b want ∧ evOp P S RO site o st some = some e) ∨
     ((gt st.t tg = .b (!want) ∨ gt st.t tg = .tup []) ∧ e = ⟨.tup [], none⟩)))

def fT (ops : Array Oper) (E : List Eff) (x i : Nat) : Option AV :=
  match ops[i]?, E[i]? with
  | some o, some e => if o.dst = some x then some e.v else none
  | _, _ => none
def fM (E : List Eff) (id i : Nat) : Option Blk :=
  match E[i]? with
  | some e => match e.m with
    | some (id', b) => if id' = id then some b else none
    | none => none
  | none => none
def only {β : Type} (U : Nat → Bool) (f : Nat → Option β) (i : Nat) : Option β := if U i = true then f i else none
structure Stn (ops : Array Oper) (E : List Eff) (st0 : St) (U : Nat → Bool) (n : Nat) (s : St) : Prop where
  t : ∀ x, gt s.t x = (lastOf (only U (fT ops E x)) n).getD (gt st0.t x)
  m : ∀ id, gm s.m id = (lastOf (only U (fM E id)) n).getD (gm st0.m id)
  nx : s.nx = st0.nx
  nt : s.nt = st0.nt
def every : Nat → Bool := fun _ => true

theorem Stn.eqv {ops : Array Oper} {E : List Eff} {st0 : St} {U : Nat → Bool} {n : Nat} {s s' : St} (h : Stn ops E st0 U n s) (he : Eqv s s') : Stn ops E st0 U n s' :=
  ⟨fun x => by rw [← he.t]; exact h.t x, fun x => by rw [← he.m]; exact h.m x, he.nx.symm.trans h.nx, he.nt.symm.trans h.nt⟩
theorem Stn.congr {ops : Array Oper} {E E' : List Eff} {st0 : St} {U : Nat → Bool} {n : Nat} {s : St} (h : Stn ops E st0 U n s) (he : ∀ i, i < n → E[i]? = E'[i]?) : Stn ops E' st0 U n s := by
  refine ⟨fun x => ?_, fun id => ?_, h.nx, h.nt⟩
  · rw [h.t, lastOf_congr fun i hi => ?_]
    simp only [only, fT, he i hi]
  · rw [h.m, lastOf_congr fun i hi => ?_]
    simp only [only, fM, he i hi]

def Path (P : Program) (S : Spec) (RO : Nat → Bool) (ops : Array Oper) (base : Nat) (chk : Nat → Oper → St → Bool) (st0 : St) {ρ : Type} (K : St → Option ρ) (r : ρ) (E0 : List Eff) (j m : Nat) : Prop :=
    ∃ E, (∀ i, i < j → E[i]? = E0[i]?) ∧ E.length = m ∧
      (∀ i o, j ≤ i → i < m → ops[i]? = some o → ∃ e s, E[i]? = some e ∧ Stn ops E st0 every i s ∧ Does P S RO ops (base + i) o s e ∧ chk i o s = true ∧ (∀ x, o.dst = some x → x < st0.nt)) ∧
      ∃ s, Stn ops E st0 every m s ∧ K s = some r
theorem evOps_path {ops : Array Oper} {base : Nat} {chk : Nat → Oper → St → Bool} {st0 : St} {K : St → Option ρ} {r : ρ} :
    ∀ (l : List Oper) (j : Nat) (st : St) (E0 : List Eff), (∀ i, i < l.length → l[i]? = ops[j + i]?) → E0.length = j → Stn ops E0 st0 every j st → evOps P S RO ops base chk l j st K = some r →
    Path P S RO ops base chk st0 K r E0 j (j + l.length)
  | [], j, st, E0, hl, hE, hS, he => by
    refine ⟨E0, fun _ _ => rfl, by simpa using hE, fun i o hi hm ho => ?_, st, by simpa using hS, he⟩
    simp at hm; omega
  | o :: l, j, st, E0, hl, hE, hS, he => by
    have ho : ops[j]? = some o := by have := hl 0 (by simp); simpa using this.symm
    have hl' : ∀ i, i < l.length → l[i]? = ops[j + 1 + i]? := fun i hi => by
      have := hl (i + 1) (by simpa using hi)
      simp only [List.getElem?_cons_succ] at this
      rw [this]; congr 1; omega
    simp only [evOps] at he
    obtain ⟨hdst, he⟩ := cond_some he
    obtain ⟨hdst, hchk⟩ := Bool.and_eq_true_iff.1 hdst
    have hb := dst_ok hdst
    rw [hS.nt] at hb
    -- one step
    have step : ∀ (e : Eff) (s1 : St), Eqv s1 (st.app o.dst e) → Does P S RO ops (base + j) o st e → evOps P S RO ops base chk l (j + 1) s1 K = some r →
        Path P S RO ops base chk st0 K r E0 j (j + (o :: l).length) := by
      intro e s1 hs1 hdo hev
      have hj : (E0 ++ [e])[j]? = some e := by simp [← hE]
      have hlt : ∀ i, i < j → (E0 ++ [e])[i]? = E0[i]? := fun i hi => by simp [List.getElem?_append, hE, hi]
      have hS1 : Stn ops (E0 ++ [e]) st0 every (j + 1) s1 := by
        have hS' : Stn ops (E0 ++ [e]) st0 every j st := hS.congr fun i hi => (hlt i hi).symm
        refine Stn.eqv ⟨fun x => ?_, fun id => ?_, by rw [app_nx]; exact hS.nx, by rw [app_nt]; exact hS.nt⟩ hs1.symm
        · rw [app_t, hS'.t]
          simp only [lastOf, only, every, fT, ho, hj, if_true]
          by_cases hx : o.dst = some x <;> simp [hx]
        · rw [app_m, hS'.m]
          simp only [lastOf, only, every, fM, hj, if_true]
          cases e.m with
          | none => rfl
          | some p =>
            obtain ⟨i, b⟩ := p
            by_cases hx : i = id <;> simp [hx]
      obtain ⟨E, h1, h2, h3, s, h4, h5⟩ := evOps_path l (j + 1) s1 (E0 ++ [e]) hl' (by simp [hE]) hS1 hev
      have hEj : E[j]? = some e := (h1 j (by omega)).trans hj
      refine ⟨E, fun i hi => (h1 i (by omega)).trans (hlt i hi), by rw [h2]; simp; omega, fun i o' hi hm ho' => ?_, s, by rw [List.length_cons]; rw [show j + (l.length + 1) = j + 1 + l.length by omega]; exact h4, h5⟩
      by_cases e1 : i = j
      · subst e1
        have e2 : o = o' := by rw [ho] at ho'; exact Option.some.inj ho'
        subst e2
        exact ⟨e, st, hEj, hS.congr fun k hk => ((h1 k (by omega)).trans (hlt k hk)).symm, hdo, hchk, hb⟩
      · exact h3 i o' (by omega) (by simp at hm; omega) ho'
    have dir : ∀ {s : St}, Eqv s st → evOp P S RO (base + j) o s (fun e => evOps P S RO ops base chk l (j + 1) (s.app o.dst e) K) = some r →
        ∃ e, evOp P S RO (base + j) o st some = some e ∧ evOps P S RO ops base chk l (j + 1) (s.app o.dst e) K = some r := by
      intro s hs h
      rw [evOp_bind] at h
      obtain ⟨e, h1, h2⟩ := Option.bind_eq_some_iff.1 h
      exact ⟨e, (evOp_congr (fun x _ => (hs.symm.val x)) (fun id _ => hs.symm.m id)).trans h1, h2⟩
    cases hg : o.guard with
    | none =>
      rw [hg] at he
      obtain ⟨e, h1, h2⟩ := dir (Eqv.refl st) he
      exact step e _ (Eqv.refl _) (.inl ⟨hg, h1⟩) h2
    | some gw =>
      obtain ⟨g, want⟩ := gw
      rw [hg] at he
      simp only at he
      cases htg : (ops[g]?).bind (·.dst) with
      | none => rw [htg] at he; cases he
      | some tg =>
        rw [htg] at he
        simp only at he
        have perform : ∀ {x : Bool}, gt st.t tg = .b x → x = want → evOp P S RO (base + j) o (st.put (some tg) (.b x)) (fun e => evOps P S RO ops base chk l (j + 1) ((st.put (some tg) (.b x)).app o.dst e) K) = some r → Path P S RO ops base chk st0 K r E0 j (j + (o :: l).length) := by
          intro x hx hw h
          have hq := put_know hx
          obtain ⟨e, h1, h2⟩ := dir hq h
          exact step e _ (hq.app _ _) (.inr ⟨g, want, tg, hg, htg, .inl ⟨by rw [hx, hw], h1⟩⟩) h2
        have pass : ∀ {x : Bool}, gt st.t tg = .b x → x = !want → evOps P S RO ops base chk l (j + 1) ((st.put (some tg) (.b x)).put o.dst (.tup [])) K = some r → Path P S RO ops base chk st0 K r E0 j (j + (o :: l).length) := by
          intro x hx hw h
          have hq := put_know hx
          exact step ⟨.tup [], none⟩ _ (hq.app o.dst ⟨.tup [], none⟩) (.inr ⟨g, want, tg, hg, htg, .inr ⟨.inl (by rw [hx, hw]), rfl⟩⟩) h
        split at he
        · rename_i x hx
          cases x <;> cases want <;> simp only [cond_true, cond_false] at he
          · exact perform hx rfl he
          · exact pass hx rfl he
          · exact pass hx rfl he
          · exact perform hx rfl he
        · rename_i hx
          exact step ⟨.tup [], none⟩ _ (Eqv.refl _) (.inr ⟨g, want, tg, hg, htg, .inr ⟨.inr hx, rfl⟩⟩) he
        · cases he

theorem evOps_path_take {ops : Array Oper} {base c : Nat} {chk : Nat → Oper → St → Bool} {st : St} {K : St → Option ρ} {r : ρ} (hc : c ≤ ops.size) (h0 : Stn ops [] st every 0 st) (he : evOps P S RO ops base chk (ops.toList.take c) 0 st K = some r) :
    ∃ E, E.length = c ∧ (∀ i o, i < c → ops[i]? = some o → ∃ e s, E[i]? = some e ∧ Stn ops E st every i s ∧ Does P S RO ops (base + i) o s e ∧ chk i o s = true ∧ (∀ x, o.dst = some x → x < st.nt)) ∧
      ∃ s, Stn ops E st every c s ∧ K s = some r := by
  have hl : (ops.toList.take c).length = c := by simp; omega
  obtain ⟨E, _, h2, h3, s, h4, h5⟩ := evOps_path (ops.toList.take c) 0 st [] (fun i hi => by
    rw [hl] at hi
    simp [List.getElem?_take, hi]) rfl h0 he
  rw [Nat.zero_add, hl] at h2 h4
  exact ⟨E, h2, fun i o hi ho => h3 i o (Nat.zero_le _) (by omega) ho, s, h4, h5⟩
end Go.Ev

set_option linter.unusedVariables false
set_option linter.unusedSimpArgs false
namespace Go.Ev
open Go Go.RowKit

variable {P : Program} {w0 : Base} {X D : Nat → Nat → Prop} {R : Nat → Option (Nat × Nat × Nat)} {st : St} {a : Act} {w : World}
variable {ro : Option Nat} {n : Nat} {Q : Exit → Act → World → Prop} {ρ : Type} {S : Spec} {RO : Nat → Bool}

theorem befRow_spec (Ms : List Nat) (o : Oper) {i : Nat} (h : Nat.testBit (befRow Ms o) i = true) :
    ∃ e, e ∈ o.after ∧ Region.binds .any e = true ∧ (e.on = i ∨ Nat.testBit (Ms.getD e.on 0) i = true) := by
  unfold befRow at h
  have : ∀ (l : List Edge) (m : Nat), Nat.testBit (l.foldl (fun m e => cond (Region.binds .any e) ((m ||| (2 ^ e.on)) ||| Ms.getD e.on 0) m) m) i = true →
      Nat.testBit m i = true ∨ ∃ e, e ∈ l ∧ Region.binds .any e = true ∧ (e.on = i ∨ Nat.testBit (Ms.getD e.on 0) i = true) := by
    intro l
    induction l with
    | nil => intro m h; exact .inl h
    | cons e l ih =>
      intro m h
      rcases ih _ h with h | ⟨e', h1, h2⟩
      rotate_left
      · exact .inr ⟨e', by simp [h1], h2⟩
      simp only at h
      · cases hb : Region.binds .any e with
        | false => rw [hb] at h; exact .inl h
        | true =>
          rw [hb] at h
          simp only [cond_true, Nat.testBit_or, Bool.or_eq_true, Nat.testBit_two_pow, decide_eq_true_eq] at h
          rcases h with (h | h) | h
          · exact .inl h
          · exact .inr ⟨e, by simp, hb, .inl h⟩
          · exact .inr ⟨e, by simp, hb, .inr h⟩
  rcases this _ _ h with h | ⟨e, h1, h2⟩
  · simp at h
  · exact ⟨e, by simpa using h1, h2⟩

theorem drawRows_spec {ops : Array Oper} {Ms : List Nat} : ∀ (l : List Oper) (j : Nat), (∀ i, l[i]? = ops[j + i]?) → drawRows ops Ms l j = true →
    ∀ k o, j ≤ k → ops[k]? = some o → Ms.getD k 0 = befRow Ms o ∧ Ms.getD k 0 < 2 ^ k ∧ (∀ i x, i < k → ops[i]? = some x → clash ops x o = true → Nat.testBit (Ms.getD k 0) i = true) ∧ ∀ i x, i ≤ k → ops[i]? = some x → steady ops x o = true
  | [], j, hl, h, k, o, hk, ho => by
    have := hl (k - j)
    rw [show j + (k - j) = k by omega, ho] at this
    simp at this
  | o' :: l, j, hl, h, k, o, hk, ho => by
    have ho' : ops[j]? = some o' := by have := hl 0; simpa using this.symm
    have hl' : ∀ i, l[i]? = ops[j + 1 + i]? := fun i => by
      have := hl (i + 1)
      simp only [List.getElem?_cons_succ] at this
      rw [this]; congr 1; omega
    simp only [drawRows, Bool.and_eq_true] at h
    obtain ⟨h1, h2, h3, h5, h4⟩ := h
    by_cases e : k = j
    · subst e
      have e2 : o' = o := by rw [ho] at ho'; exact (Option.some.inj ho').symm
      subst e2
      refine ⟨Nat.eq_of_beq_eq_true h1, by simpa [Nat.blt_eq] using h2, fun i x hi hx hc => ?_, fun i x hi hx => ?_⟩
      · have := List.all_eq_true.1 h3 i (by simpa using hi)
        rw [hx] at this
        simp only [hc, Bool.not_true, Bool.false_or, Bool.and_eq_true] at this
        exact this.1
      · by_cases e : i = k
        · subst e
          rw [ho] at hx
          cases hx
          exact h5
        · have := List.all_eq_true.1 h3 i (by simp; omega)
          rw [hx] at this
          exact (Bool.and_eq_true_iff.1 this).2
    · exact drawRows_spec l (j + 1) hl' h4 k o (by omega) ho

theorem bit_lt {m j i : Nat} (h : m < 2 ^ j) (hb : Nat.testBit m i = true) : i < j := by
  rcases Nat.lt_or_ge i j with h' | h'
  · exact h'
  · rw [Nat.testBit_lt_two_pow (Nat.lt_of_lt_of_le h (Nat.pow_le_pow_right (by omega) h'))] at hb
    cases hb

section
variable {ops : Array Oper} {E : List Eff} {base c : Nat} {st0 : St}
structure PathOK (P : Program) (S : Spec) (RO : Nat → Bool) (ops : Array Oper) (base : Nat) (st0 : St) (E : List Eff) (c : Nat) : Prop where
  le : c ≤ ops.size
  len : E.length = c
  row : ∀ k o, ops[k]? = some o → (befs ops).getD k 0 = befRow (befs ops) o ∧ (befs ops).getD k 0 < 2 ^ k ∧ (∀ i x, i < k → ops[i]? = some x → clash ops x o = true → Nat.testBit ((befs ops).getD k 0) i = true) ∧ ∀ i x, i ≤ k → ops[i]? = some x → steady ops x o = true
  each : ∀ i o, i < c → ops[i]? = some o → ∃ e s, E[i]? = some e ∧ Stn ops E st0 every i s ∧ Does P S RO ops (base + i) o s e ∧ accOK ops (befs ops) base i o s = true ∧ (∀ x, o.dst = some x → x < st0.nt)

def bef (ops : Array Oper) (j i : Nat) : Prop := Nat.testBit ((befs ops).getD j 0) i = true
theorem PathOK.lt (h : PathOK P S RO ops base st0 E c) {j i : Nat} {o : Oper} (ho : ops[j]? = some o) (hb : bef ops j i) : i < j := bit_lt (h.row j o ho).2.1 hb
theorem PathOK.clash (h : PathOK P S RO ops base st0 E c) {j i : Nat} {x o : Oper} (hi : i < j) (hx : ops[i]? = some x) (ho : ops[j]? = some o) (hc : clash ops x o = true) : bef ops j i := (h.row j o ho).2.2.1 i x hi hx hc

theorem PathOK.writer (h : PathOK P S RO ops base st0 E c) {k id : Nat} {o : Oper} {b : Blk} (ho : ops[k]? = some o) (hw : fM E id k = some b) :
    (isStore o = false ∧ id = base + k) ∨ (isStore o = true ∧ (id < base ∨ bef ops k (id - base)) ∧ ∃ s, Stn ops E st0 every k s ∧ acc o s = some id ∧ accOK ops (befs ops) base k o s = true) := by
  have hkc : k < c := by
    rcases Nat.lt_or_ge k c with h' | h'
    · exact h'
    · rw [fM, List.getElem?_eq_none (by rw [h.len]; exact h')] at hw
      cases hw
  obtain ⟨e, s, h1, h2, h3, h4, h5⟩ := h.each k o hkc ho
  simp only [fM, h1] at hw
  have key : ∀ b', e.m = some (id, b') → evOp P S RO (base + k) o s some = some e → (isStore o = false ∧ id = base + k) ∨ (isStore o = true ∧ (id < base ∨ bef ops k (id - base)) ∧ ∃ s, Stn ops E st0 every k s ∧ acc o s = some id ∧ accOK ops (befs ops) base k o s = true) := fun b' hm hev => by
    rcases evOp_eff hev with g | ⟨g1, b2, g2⟩ | ⟨g1, id2, b2, g2, g3⟩
    · rw [hm] at g; cases g
    · rw [hm] at g2
      simp only [Option.some.injEq, Prod.mk.injEq] at g2
      exact .inl ⟨g1, g2.1⟩
    · rw [hm] at g3
      simp only [Option.some.injEq, Prod.mk.injEq] at g3
      obtain ⟨rfl, _⟩ := g3
      refine .inr ⟨g1, ?_, s, h2, g2, h4⟩
      have h4 := (Bool.and_eq_true_iff.1 h4).1
      simp only [g2, Bool.or_eq_true, Nat.blt_eq] at h4
      exact h4
  cases hm : e.m with
  | none => rw [hm] at hw; cases hw
  | some p =>
    obtain ⟨i', b'⟩ := p
    rw [hm] at hw
    simp only at hw
    split at hw
    · rename_i e1
      subst e1
      rcases h3 with ⟨_, h3⟩ | ⟨g, want, tg, _, _, ⟨_, h3⟩ | ⟨_, h3⟩⟩
      · exact key b' hm h3
      · exact key b' hm h3
      · rw [h3] at hm; cases hm
    · cases hw
theorem fT_some {x k : Nat} {v : AV} (h : fT ops E x k = some v) : ∃ o, ops[k]? = some o ∧ o.dst = some x := by
  unfold fT at h
  split at h
  · rename_i o e h1 h2
    split at h
    · rename_i hd; exact ⟨o, h1, hd⟩
    · cases h
  · cases h
theorem clash_look {x o : Oper} {d : Nat} (h : x.dst = some d) (hm : d ∈ looks ops o) : clash ops x o = true := by
  simp [Ev.clash, h, has_iff.2 hm]
theorem clash_look' {x o : Oper} {d : Nat} (h : o.dst = some d) (hm : d ∈ looks ops x) : clash ops x o = true := by
  simp [Ev.clash, h, has_iff.2 hm]
theorem clash_dst {x o : Oper} {d : Nat} (h : x.dst = some d) (h' : o.dst = some d) : clash ops x o = true := by
  simp [Ev.clash, h, h']
theorem memS_acc {o : Oper} {s : St} {id : Nat} (h : acc o s = some id) : memS o = true := by
  unfold acc at h
  unfold memS
  cases hop : o.op <;> simp [hop] at h ⊢
  rename_i c
  cases hc : isCopy c
  · rw [hc] at h; cases h
  · rfl
theorem acc_congr {o : Oper} {s s' : St} (h : ∀ x, x ∈ looks ops o → gt s.t x = gt s'.t x) : acc o s = acc o s' := by
  have hv : ∀ x, x ∈ o.op.operands → val s x = val s' x := fun x hx => by
    cases x with
    | tmp t => exact h t (List.mem_append_left _ (List.mem_filterMap.2 ⟨.tmp t, by simpa using hx, rfl⟩))
    | _ => rfl
  have key : ∀ x, x ∈ o.op.operands → (match val s x with
      | .p id _ _ => some id
      | .sl id _ _ => some id
      | .mp id => some id
      | .it id => some id
      | _ => none) = (match val s' x with
      | .p id _ _ => some id
      | .sl id _ _ => some id
      | .mp id => some id
      | .it id => some id
      | _ => (none : Option Nat)) := fun x hx => by rw [hv x hx]
  unfold acc
  cases hop : o.op <;> try rfl
  case call c =>
    have : c.args.toList.map (val s) = c.args.toList.map (val s') := List.map_congr_left fun x hx => hv x (by rw [hop]; simp only [Op.operands, Call.operands]; exact Array.mem_append.2 (.inr (by simpa using hx)))
    simp only [this]
  all_goals exact key _ (by simp [hop, Op.operands])
theorem PathOK.still (h : PathOK P S RO ops base st0 E c) {i j : Nat} {o : Oper} {si sj : St} (hij : i ≤ j) (ho : ops[i]? = some o) (hm : memS o = true) (hi : Stn ops E st0 every i si) (hj : Stn ops E st0 every j sj) : acc o si = acc o sj := by
  refine acc_congr (ops := ops) fun x hx => ?_
  rw [hi.t, hj.t]
  congr 1
  refine (lastOf_upto hij fun k hk hkj => ?_).symm
  simp only [only, every, if_true]
  cases hf : fT ops E x k with
  | none => rfl
  | some v =>
    obtain ⟨ok, h1, h2⟩ := fT_some hf
    have := (h.row k ok h1).2.2.2 i o hk ho
    simp only [steady, hm, h2, has_iff.2 hx, Bool.and_self, Bool.not_true] at this
    cases this
theorem PathOK.order (h : PathOK P S RO ops base st0 E c) {i j id : Nat} {x o : Oper} {si sj : St} (hij : i < j) (hx : ops[i]? = some x) (hi : Stn ops E st0 every i si) (hj : Stn ops E st0 every j sj)
    (ha : acc x si = some id) (ha' : acc o sj = some id) (hc : accOK ops (befs ops) base j o sj = true) (hs : isStore x = true ∨ isStore o = true) : bef ops j i := by
  have hst := h.still (by omega) hx (memS_acc ha) hi hj
  have hm := (Bool.and_eq_true_iff.1 hc).2
  simp only [memOK, ha'] at hm
  have := List.all_eq_true.1 hm i (by simpa using hij)
  rw [hx] at this
  simp only [← hst, ha, Nat.beq_refl, Bool.not_true, Bool.false_or] at this
  rcases hs with hs | hs <;> simpa [hs, bef] using this

theorem PathOK.agree (h : PathOK P S RO ops base st0 E c) {U : Nat → Bool} {s : St} (hs : Stn ops E st0 U c s) (hdc : ∀ i k, U i = true → bef ops i k → U k = true)
    {i : Nat} {o : Oper} (hiN : i < c) (ho : ops[i]? = some o) (hU : U i = false) (hpre : ∀ k, bef ops i k → U k = true) {si : St} (hsi : Stn ops E st0 every i si) (hacc : accOK ops (befs ops) base i o si = true) :
    (∀ x, x ∈ looks ops o → gt si.t x = gt s.t x) ∧ (∀ id, acc o si = some id → gm si.m id = gm s.m id) := by
  have hlen := h.len
  have hle := h.le
  refine ⟨fun x hx => ?_, fun id hid => ?_⟩
  · rw [hsi.t, hs.t]
    congr 1
    rw [lastOf_upto (j := i) (n := c) (by omega) fun k hk hkN => ?_]
    · refine lastOf_congr fun k hk => ?_
      simp only [only, every, if_true]
      cases hf : fT ops E x k with
      | none => simp
      | some v =>
        obtain ⟨ok, h1, h2⟩ := fT_some hf
        rw [if_pos (hpre k (h.clash hk h1 ho (clash_look h2 hx)))]
    · simp only [only]
      split
      · rename_i hUk
        cases hf : fT ops E x k with
        | none => rfl
        | some v =>
          obtain ⟨ok, h1, h2⟩ := fT_some hf
          have hne : k ≠ i := fun e => by rw [e, hU] at hUk; cases hUk
          have := hdc k i hUk (h.clash (by omega) ho h1 (clash_look' h2 hx))
          rw [hU] at this; cases this
      · rfl
  · have hacc0 := hacc
    have hacc := (Bool.and_eq_true_iff.1 hacc).1
    simp only [hid, Bool.or_eq_true, Nat.blt_eq] at hacc
    have hcl : ∀ k b, k < c → fM E id k = some b → ∃ ok, ops[k]? = some ok := fun k b hk hf => by
      cases hE : E[k]? with
      | none => simp [fM, hE] at hf
      | some e =>
        have := (List.getElem?_eq_some_iff.1 hE).1
        exact ⟨ops[k]'(by omega), by simp⟩
    rw [hsi.m, hs.m]
    congr 1
    rw [lastOf_upto (j := i) (n := c) (by omega) fun k hk hkN => ?_]
    · refine lastOf_congr fun k hk => ?_
      simp only [only, every, if_true]
      cases hf : fM E id k with
      | none => simp
      | some b =>
        obtain ⟨ok, h1⟩ := hcl k b (by omega) hf
        rw [if_pos (hpre k ?_)]
        rcases h.writer h1 hf with ⟨g1, g2⟩ | ⟨g1, g2, sk, g3, g4, g5⟩
        · subst g2
          rcases hacc with g | g
          · omega
          · simpa [bef] using g
        · exact h.order hk h1 g3 hsi g4 hid hacc0 (.inl g1)
    · simp only [only]
      split
      · rename_i hUk
        cases hf : fM E id k with
        | none => rfl
        | some b =>
          obtain ⟨ok, h1⟩ := hcl k b (by omega) hf
          have hne : k ≠ i := fun e => by rw [e, hU] at hUk; cases hUk
          rcases h.writer h1 hf with ⟨g1, g2⟩ | ⟨g1, g2, sk, g3, g4, g5⟩
          · subst g2
            rcases hacc with g | g
            · omega
            · have := h.lt ho (show bef ops i k by simpa [bef] using g)
              omega
          · have := hdc k i hUk (h.order (by omega) ho hsi g3 hid g4 g5 (.inr g1))
            rw [hU] at this; cases this
      · rfl

theorem PathOK.insert (h : PathOK P S RO ops base st0 E c) {U U' : Nat → Bool} {s : St} (hs : Stn ops E st0 U c s) (hdc : ∀ i k, U i = true → bef ops i k → U k = true)
    {i : Nat} {o : Oper} {e : Eff} (hiN : i < c) (ho : ops[i]? = some o) (he : E[i]? = some e) (hU : U i = false) (hU' : U' i = true) (hUk : ∀ k, k ≠ i → U' k = U k) : Stn ops E st0 U' c (s.app o.dst e) := by
  have hlen := h.len
  have hle := h.le
  refine ⟨fun x => ?_, fun id => ?_, by rw [app_nx]; exact hs.nx, by rw [app_nt]; exact hs.nt⟩
  · rw [app_t]
    by_cases hx : o.dst = some x
    · rw [if_pos hx, lastOf_at (j := i) (b := e.v) hiN (by simp [only, hU', fT, ho, he, hx]) fun k hk hkN => ?_]
      · rfl
      · simp only [only]
        split
        · rename_i hUk'
          rw [hUk k (by omega)] at hUk'
          cases hf : fT ops E x k with
          | none => rfl
          | some v =>
            obtain ⟨ok, h1, h2⟩ := fT_some hf
            have := hdc k i hUk' (h.clash hk ho h1 (clash_dst hx h2))
            rw [hU] at this; cases this
        · rfl
    · rw [if_neg hx, hs.t]
      congr 1
      refine lastOf_congr fun k hk => ?_
      by_cases e1 : k = i
      · subst e1; simp [only, hU, hU', fT, ho, he, hx]
      · simp only [only, hUk k e1]
  · rw [app_m]
    have same : fM E id i = none → gm s.m id = (lastOf (only U' (fM E id)) c).getD (gm st0.m id) := fun hn => by
      rw [hs.m]
      congr 1
      refine lastOf_congr fun k hk => ?_
      by_cases e1 : k = i
      · subst e1; simp [only, hU, hU', hn]
      · simp only [only, hUk k e1]
    cases hm : e.m with
    | none => exact same (by simp [fM, he, hm])
    | some p =>
      obtain ⟨i', b⟩ := p
      simp only
      by_cases hi : i' = id
      · subst hi
        have hw : fM E i' i = some b := by simp [fM, he, hm]
        rw [if_pos rfl, lastOf_at (j := i) (b := b) hiN (by simp [only, hU', hw]) fun k hk hkN => ?_]
        · rfl
        · simp only [only]
          split
          · rename_i hUk'
            rw [hUk k (by omega)] at hUk'
            cases hf : fM E i' k with
            | none => rfl
            | some b' =>
              exfalso
              have hok : ∃ ok, ops[k]? = some ok := by
                cases hE : E[k]? with
                | none => simp [fM, hE] at hf
                | some e' =>
                  have := (List.getElem?_eq_some_iff.1 hE).1
                  exact ⟨ops[k]'(by omega), by simp⟩
              obtain ⟨ok, h1⟩ := hok
              have no : bef ops k i → False := fun hb => by
                have := hdc k i hUk' hb
                rw [hU] at this; cases this
              rcases h.writer ho hw with ⟨g1, g2⟩ | ⟨g1, g2, s1, g3, g4, g5⟩ <;> rcases h.writer h1 hf with ⟨q1, q2⟩ | ⟨q1, q2, s2, q3, q4, q5⟩
              · omega
              · rcases q2 with q2 | q2
                · omega
                · exact no (by rw [g2] at q2; simpa using q2)
              · rcases g2 with g2 | g2
                · omega
                · have := h.lt ho g2
                  omega
              · exact no (h.order hk ho g3 q3 g4 q4 q5 (.inl g1))
          · rfl
      · rw [if_neg hi]
        exact same (by simp [fM, he, hm, hi])

theorem does_congr {site : Nat} {o : Oper} {s s' : St} {e : Eff} (ht : ∀ x, x ∈ looks ops o → gt s.t x = gt s'.t x) (hm : ∀ id, acc o s = some id → gm s.m id = gm s'.m id) (h : Does P S RO ops site o s e) : Does P S RO ops site o s' e := by
  have hv : ∀ x, x ∈ o.op.operands → val s x = val s' x := fun x hx => by
    cases x with
    | tmp t => exact ht t (List.mem_append_left _ (List.mem_filterMap.2 ⟨.tmp t, by simpa using hx, rfl⟩))
    | _ => rfl
  rcases h with ⟨h1, h2⟩ | ⟨g, want, tg, h1, h2, h3⟩
  · exact .inl ⟨h1, (evOp_congr hv hm).symm.trans h2⟩
  · have htg : gt s.t tg = gt s'.t tg := ht tg (List.mem_append_right _ (by simp [h1, h2]))
    refine .inr ⟨g, want, tg, h1, h2, ?_⟩
    rw [← htg]
    exact h3.imp_left fun ⟨q1, q2⟩ => ⟨q1, (evOp_congr hv hm).symm.trans q2⟩
end
end Go.Ev

set_option linter.unusedVariables false
set_option linter.unusedSimpArgs false
namespace Go.Ev
open Go Go.RowKit

variable {P : Program} {w0 : Base} {X D : Nat → Nat → Prop} {R : Nat → Option (Nat × Nat × Nat)} {st : St} {a : Act} {w : World}
variable {ro : Option Nat} {n : Nat} {Q : Exit → Act → World → Prop} {ρ : Type} {S : Spec} {RO : Nat → Bool}

theorem count_set' : ∀ {l : List Bool} {i : Nat}, l[i]? = some false → (l.set i true).count false + 1 = l.count false
  | [], i, h => by simp at h
  | b :: l, 0, h => by
    simp at h
    subst h
    simp
  | b :: l, i + 1, h => by
    simp only [List.getElem?_cons_succ] at h
    have := count_set' h
    simp only [List.set_cons_succ, List.count_cons]
    omega
theorem countA {A : Array Bool} {i : Nat} (h : A[i]? = some false) : (A.setIfInBounds i true).toList.count false + 1 = A.toList.count false := by
  rw [Array.toList_setIfInBounds]
  exact count_set' (by simpa using h)

theorem all_listed {ops : Array Oper} (hrow : ∀ k o, ops[k]? = some o → (befs ops).getD k 0 = befRow (befs ops) o ∧ (befs ops).getD k 0 < 2 ^ k) {listed : Array Bool} (hsz : listed.size = ops.size) (hr : Region.ready .any ops listed = []) :
    ∀ i, i < ops.size → listed.getD i false = true := by
  intro i
  induction i using Nat.strongRecOn with
  | ind i ih =>
    intro hi
    cases hv : listed.getD i false with
    | true => rfl
    | false =>
      exfalso
      have hi' : i < listed.size := by omega
      have hv' : listed.getD i true = false := by
        simp [Array.getD_eq_getD_getElem?, hi'] at hv ⊢
        exact hv
      have ho : ops[i]? = some ops[i] := by simp
      have : i ∈ Region.ready .any ops listed := by
        rw [mem_ready]
        refine ⟨hv', _, ho, fun e he hb => ?_⟩
        have hb' : bef ops i e.on := by
          unfold bef
          rw [(hrow i _ ho).1]
          unfold befRow
          have : ∀ (l : List Edge) (m : Nat), (Nat.testBit m e.on = true ∨ e ∈ l) → Nat.testBit (l.foldl (fun m e => cond (Region.binds .any e) ((m ||| (2 ^ e.on)) ||| (befs ops).getD e.on 0) m) m) e.on = true := by
            intro l
            induction l with
            | nil => intro m h; rcases h with h | h; exact h; cases h
            | cons e' l ih =>
              intro m h
              refine ih _ ?_
              rcases h with h | h
              · left
                cases hb' : Region.binds .any e' <;> simp [hb', h]
              · rcases List.mem_cons.1 h with rfl | h
                · left; simp [hb]
                · exact .inr h
          exact this _ _ (.inr (by simpa using he))
        have hlt := bit_lt (hrow i _ ho).2 hb'
        exact ih e.on hlt (Nat.lt_trans hlt hi)
      rw [hr] at this
      cases this

theorem evAny_sound (hs : SpecOK P S) {R0 : Nat → Option (Nat × Nat × Nat)} {ops : Array Oper} {E : List Eff} {base c : Nat} {st0 : St} (h : PathOK P S RO ops base st0 E c) (hcut : ∀ j o, ops[j]? = some o → c ≤ j → ∀ i, i < c → bef ops j i) (ds : List Deferred)
    (hend : ∀ fuel listed D' R' s a' w', listed.size = ops.size → (∀ i, i < c → listed.getD i false = true) → (∀ i, c ≤ i → listed.getD i false = false) → listed.toList.count false ≤ fuel →
      SR P w0 X D' R' s a' w' → Stn ops E st0 every c s → Fresh R' (base + c) → (∀ id, id < base → R' id = R0 id) → a'.defers = ds → wpAnyIn (FW ro) n P .any ops Q fuel listed a' w') :
    ∀ (fuel : Nat) (listed : Array Bool) (a : Act) (w : World) (D : Nat → Nat → Prop) (R : Nat → Option (Nat × Nat × Nat)) (s : St), listed.size = ops.size → listed.toList.count false ≤ fuel → (∀ i, c ≤ i → listed.getD i false = false) →
      (∀ i k, listed.getD i false = true → bef ops i k → listed.getD k false = true) →
      SR P w0 X D R s a w → Stn ops E st0 (fun i => listed.getD i false) c s → (∀ i, listed.getD i true = false → R (base + i) = none) → Fresh R (base + c) → (∀ id, id < base → R id = R0 id) → a.defers = ds →
      wpAnyIn (FW ro) n P .any ops Q fuel listed a w := by
  have hN : ∀ k o, ops[k]? = some o → k < ops.size := fun k o hk => (Array.getElem?_eq_some_iff.1 hk).1
  have hle := h.le
  -- the end
  have fin : ∀ (fuel : Nat) (listed : Array Bool) (a : Act) (w : World) (D : Nat → Nat → Prop) (R : Nat → Option (Nat × Nat × Nat)) (s : St), listed.size = ops.size → listed.toList.count false ≤ fuel → (∀ i, c ≤ i → listed.getD i false = false) → (∀ i, i < c → listed.getD i false = true) →
      SR P w0 X D R s a w → Stn ops E st0 (fun i => listed.getD i false) c s → Fresh R (base + c) → (∀ id, id < base → R id = R0 id) → a.defers = ds → wpAnyIn (FW ro) n P .any ops Q fuel listed a w := by
    intro fuel listed a w D R s hsz hc hno hall hS hSt hF hR0 hds
    refine hend fuel listed D R s a w hsz hall hno hc hS ⟨fun x => ?_, fun id => ?_, hSt.nx, hSt.nt⟩ hF hR0 hds
    · rw [hSt.t, lastOf_congr fun i hi => ?_]
      simp only [only, hall i hi, every]
    · rw [hSt.m, lastOf_congr fun i hi => ?_]
      simp only [only, hall i hi, every]
  intro fuel
  induction fuel with
  | zero =>
    intro listed a w D R s hsz hc hno hdc hS hSt hR hF hR0 hds
    refine fin 0 listed a w D R s hsz hc hno (fun i hi => ?_) hS hSt hF hR0 hds
    have h0 : listed.toList.count false = 0 := by omega
    have := List.count_eq_zero.1 h0
    have hi' : i < listed.size := by omega
    cases hv : listed[i] with
    | true => simp [Array.getD_eq_getD_getElem?, hi', hv]
    | false => exact absurd (by rw [← hv]; simp) this
  | succ fuel ih =>
    intro listed a w D R s hsz hc hno hdc hS hSt hR hF hR0 hds
    by_cases hfull : ∀ i, i < c → listed.getD i false = true
    · exact fin (fuel + 1) listed a w D R s hsz hc hno hfull hS hSt hF hR0 hds
    refine ⟨fun hr => absurd (fun i hi => all_listed (fun k o ho => ⟨(h.row k o ho).1, (h.row k o ho).2.1⟩) hsz hr i (by omega)) hfull, fun i hi => ?_⟩
    obtain ⟨h1, o, ho, hall⟩ := mem_ready.1 hi
    have hin := hN i o ho
    have hi' : i < listed.size := by omega
    have hU : listed.getD i false = false := by
      simp [Array.getD_eq_getD_getElem?, hi'] at h1 ⊢
      exact h1
    have hpre : ∀ k, bef ops i k → listed.getD k false = true := fun k hb => by
      unfold bef at hb
      rw [(h.row i o ho).1] at hb
      obtain ⟨e, he, hbd, hk⟩ := befRow_spec _ _ hb
      have := hall e he hbd
      rcases hk with rfl | hk
      · exact this
      · exact hdc _ _ this hk
    have hic : i < c := by
      rcases Nat.lt_or_ge i c with h' | h'
      · exact h'
      · exact absurd (fun k hk => hpre k (hcut i o ho h' k hk)) hfull
    obtain ⟨e, si, hE, hsi, hdo, hacc, hb⟩ := h.each i o hic ho
    obtain ⟨ag1, ag2⟩ := h.agree hSt hdc hic ho hU hpre hsi hacc
    have hdo' := does_congr ag1 ag2 hdo
    have hb' : ∀ x, o.dst = some x → x < s.nt := by rw [hSt.nt]; exact hb
    have hsz' : (listed.setIfInBounds i true).size = ops.size := by simpa using hsz
    have hgi : ∀ d, (listed.setIfInBounds i true).getD i d = true := fun d => by simp [Array.getD_eq_getD_getElem?, hi']
    have hgk : ∀ k d, k ≠ i → (listed.setIfInBounds i true).getD k d = listed.getD k d := fun k d hk => getD_set_ne d (Ne.symm hk)
    have hc' : (listed.setIfInBounds i true).toList.count false ≤ fuel := by
      have := countA (A := listed) (i := i) (by simp [Array.getD_eq_getD_getElem?, hi'] at h1; simp [hi', h1])
      omega
    have hno' : ∀ k, c ≤ k → (listed.setIfInBounds i true).getD k false = false := fun k hk => by rw [hgk k _ (by omega)]; exact hno k hk
    have hdc' : ∀ i' k, (listed.setIfInBounds i true).getD i' false = true → bef ops i' k → (listed.setIfInBounds i true).getD k false = true := fun i' k g1 g2 => by
      by_cases e1 : k = i
      · rw [e1]; exact hgi _
      · rw [hgk k _ e1]
        by_cases e2 : i' = i
        · subst e2; exact hpre k g2
        · rw [hgk i' _ e2] at g1; exact hdc i' k g1 g2
    have hSt' : Stn ops E st0 (fun i' => (listed.setIfInBounds i true).getD i' false) c (s.app o.dst e) :=
      h.insert hSt hdc hic ho hE hU (hgi false) fun k hk => hgk k false hk
    have hR' : ∀ k, (listed.setIfInBounds i true).getD k true = false → k ≠ i ∧ listed.getD k true = false := fun k g => by
      have e1 : k ≠ i := fun e1 => by rw [e1, hgi] at g; cases g
      exact ⟨e1, by rw [hgk k _ e1] at g; exact g⟩
    have perform : evOp P S RO (base + i) o s some = some e → o.wpIn (FW ro) n P a w (wpAnyIn (FW ro) n P .any ops Q fuel (listed.setIfInBounds i true)) Q := fun hev => by
      refine evOp_sound hs hS (hR i h1) hb' hev fun D' R' e' v' w' hS2 hFr hK => ?_
      simp only [Option.some.injEq] at hK
      subst hK
      exact ih _ _ _ D' R' _ hsz' hc' hno' hdc' hS2 hSt' (fun k g => by
        obtain ⟨g1, g2⟩ := hR' k g
        rw [hFr.R (base + k) (by omega)]
        exact hR k g2) (fun id hid => by rw [hFr.R id (by omega)]; exact hF id hid) (fun id hid => (hFr.R id (by omega)).trans (hR0 id hid)) ((put_defers _ _ _).trans hds)
    have pass : e = ⟨.tup [], none⟩ → (∀ f, o.about P w a.eval = some f → (FW ro).fn f) ∧ wpAnyIn (FW ro) n P .any ops Q fuel (listed.setIfInBounds i true) (a.put o.dst undef) w := fun he => by
      refine ⟨fun _ _ => trivial, ih _ _ _ D R (s.app o.dst e) hsz' hc' hno' hdc' ?_ hSt' (fun k g => hR k (hR' k g).2) hF hR0 ((put_defers _ _ _).trans hds)⟩
      rw [he]
      exact hS.put hb' VR_undef
    unfold wpOpIn
    simp only [ho]
    rcases hdo' with ⟨hg, hev⟩ | ⟨g, want, tg, hg, htg, hcase⟩
    · rw [if_pos (by simp [Region.wanted, hg])]
      exact perform hev
    · have hv := hS.tmp tg
      rcases hcase with ⟨hx, hev⟩ | ⟨hx, he⟩
      · rw [hx] at hv
        have hb2 := getD_bool hv.bool_inv
        rw [if_pos (by simp [Region.wanted, hg, yielded, htg, hb2])]
        exact perform hev
      · rw [if_neg ?_]
        · exact pass he
        · rcases hx with hx | hx
          · rw [hx] at hv
            have hb2 := getD_bool hv.bool_inv
            cases want <;> simp [Region.wanted, hg, yielded, htg, hb2]
          · rw [hx] at hv
            have hy : yielded ops a.tmps g = none := by
              generalize hq : a.tmps.getD tg Go.undef = q at hv
              cases hv with
              | tup h1 _ =>
                simp only [yielded, htg, Option.bind_some]
                rw [Array.getD_eq_getD_getElem?] at hq
                cases ht : a.tmps[tg]? with
                | none => rfl
                | some z => rw [ht] at hq; simp at hq; subst hq; rfl
            simp [Region.wanted, hg, hy]

theorem wpAny_chain {ops : Array Oper} : ∀ (m c : Nat) (fuel : Nat) (listed : Array Bool) (a : Act) (w : World), c + m = ops.size → m ≤ fuel → (∀ k o, ops[k]? = some o → (befs ops).getD k 0 = befRow (befs ops) o ∧ (befs ops).getD k 0 < 2 ^ k) →
    (∀ j o, ops[j]? = some o → c ≤ j → ∀ i, i < j → bef ops j i) → listed.size = ops.size → (∀ i, i < c → listed.getD i false = true) → (∀ i, c ≤ i → listed.getD i false = false) →
    wpOpsIn (FW ro) n P ops Q (List.range' c m) a w → wpAnyIn (FW ro) n P .any ops Q fuel listed a w
  | 0, c, fuel, listed, a, w, hc, _, hrow, hb, hsz, h1, h2, h => by
    refine wpAnyIn_done ?_ h fuel
    cases hr : Region.ready .any ops listed with
    | nil => rfl
    | cons i l =>
      have hm : i ∈ Region.ready .any ops listed := by rw [hr]; simp
      obtain ⟨g1, o, g2, _⟩ := mem_ready.1 hm
      have hi := (Array.getElem?_eq_some_iff.1 g2).1
      have := h1 i (by omega)
      have hi' : i < listed.size := by omega
      simp [Array.getD_eq_getD_getElem?, hi'] at g1 this
      rw [g1] at this; cases this
  | m + 1, c, 0, listed, a, w, hc, hf, _, _, _, _, _, _ => by omega
  | m + 1, c, fuel + 1, listed, a, w, hc, hf, hrow, hb, hsz, h1, h2, h => by
    have hsz' : (listed.setIfInBounds c true).size = ops.size := by simpa using hsz
    have hcl : c < listed.size := by omega
    refine ⟨fun hr => ?_, fun i hi => ?_⟩
    · have := all_listed hrow hsz hr c (by omega)
      rw [h2 c (Nat.le_refl _)] at this; cases this
    · obtain ⟨g1, o, ho, hall⟩ := mem_ready.1 hi
      have hin := (Array.getElem?_eq_some_iff.1 ho).1
      have hi' : i < listed.size := by omega
      have hic : c ≤ i := by
        rcases Nat.lt_or_ge i c with h' | h'
        · have := h1 i h'
          simp [Array.getD_eq_getD_getElem?, hi'] at g1 this
          rw [g1] at this; cases this
        · exact h'
      have e : i = c := by
        rcases Nat.lt_or_ge c i with h' | h'
        · exfalso
          have hbb := hb i o ho hic
          -- some binding edge leads to one that is not listed
          have : ∀ k, bef ops i k → k < c ∨ ∃ e, e ∈ o.after ∧ Region.binds .any e = true ∧ c ≤ e.on := fun k hk => by
            unfold bef at hk
            rw [(hrow i o ho).1] at hk
            obtain ⟨e, he, hbd, hk⟩ := befRow_spec _ _ hk
            rcases Nat.lt_or_ge e.on c with h3 | h3
            · left
              rcases hk with rfl | hk
              · exact h3
              · have ho2 : ops[e.on]? = some (ops[e.on]'(by omega)) := by simp
                have := bit_lt (hrow e.on _ ho2).2 hk
                omega
            · exact .inr ⟨e, he, hbd, h3⟩
          rcases this c (hbb c h') with h3 | ⟨e, he, hbd, h3⟩
          · omega
          · have := hall e he hbd
            rw [h2 e.on h3] at this; cases this
        · omega
      subst e
      rw [List.range'_succ, wpOpsIn_cons] at h
      refine wpOpIn_mono (fun a' w' h' => wpAny_chain m (i + 1) fuel _ a' w' (by omega) (by omega) hrow (fun j o hj hcj => hb j o hj (by omega)) hsz' (fun k hk => ?_) (fun k hk => ?_) h') h
      · by_cases ek : k = i
        · subst ek; simp [Array.getD_eq_getD_getElem?, hcl]
        · rw [getD_set_ne false (Ne.symm ek)]; exact h1 k (by omega)
      · rw [getD_set_ne false (by omega)]; exact h2 k (by omega)

theorem region_cut (hs : SpecOK P S) (hm : P.follows .mixedOrders = true) {ops : Array Oper} {base id c : Nat} {K : St → Option ρ} {r : ρ} (hd : drawOK ops = true) (hle : c ≤ ops.size)
    (hcut : ∀ j o, ops[j]? = some o → c ≤ j → ∀ i, i < j → bef ops j i) (h : SR P w0 X D R st a w) (hf : Fresh R base)
    (he : evOps P S RO ops base (chkOf ops true base) (ops.toList.take c) 0 st K = some r)
    (hn : ∀ D' R' st' a' w', SR P w0 X D' R' st' a' w' → Fresh R' (base + c) → (∀ id, id < base → R' id = R id) → a'.defers = a.defers → st'.nx = st.nx → st'.nt = st.nt → K st' = some r →
      wpOpsIn (FW ro) n P ops Q (List.range' c (ops.size - c)) a' w') :
    (Code.region id ops true).wpIn (FW ro) n P Q a w := by
  have h0 : Stn ops [] st every 0 st := ⟨fun _ => rfl, fun _ => rfl, rfl, rfl⟩
  obtain ⟨E, h2, h3, s, h4, h5⟩ := evOps_path_take hle h0 he
  have hrow : ∀ k o, ops[k]? = some o → _ := fun k o ho => drawRows_spec ops.toList 0 (fun i => by simp) hd k o (Nat.zero_le _) ho
  have hp : PathOK P S RO ops base st E c := ⟨hle, h2, hrow, fun i o hi ho => h3 i o hi ho⟩
  refine wpIn_region_any hm (evAny_sound hs (R0 := R) hp (fun j o hj hcj i hi => hcut j o hj hcj i (by omega)) a.defers (fun fuel listed D' R' s' a' w' hsz hall hno hcnt hS hSt hF hR0 hds => ?_) ops.size _ a _ D R st (by simp) (by simp) (fun i _ => ?_) (fun i k hi _ => ?_) (h.world ⟨rfl, rfl, rfl, Nat.le_refl _, fun _ _ => rfl⟩) ?_ (fun i _ => hf _ (by omega)) (fun id hid => hf id (by omega)) (fun _ _ => rfl) rfl)
  · refine wpAny_chain (ops.size - c) c fuel listed a' w' (by omega) ?_ (fun k o ho => ⟨(hrow k o ho).1, (hrow k o ho).2.1⟩) hcut hsz hall hno ?_
    · have : ∀ (l : List Bool) (c : Nat), (∀ i, c ≤ i → l.getD i false = false) → l.length - c ≤ l.count false := by
        intro l
        induction l with
        | nil => intro c _; simp
        | cons b l ih =>
          intro c h
          cases c with
          | zero =>
            have hb := h 0 (Nat.le_refl _)
            simp at hb
            subst hb
            have := ih 0 (fun i hi => by have := h (i + 1) (by omega); simpa using this)
            simp at this ⊢; omega
          | succ c =>
            have := ih c (fun i hi => by have := h (i + 1) (by omega); simpa using this)
            have h2 : l.count false ≤ (b :: l).count false := by rw [List.count_cons]; omega
            simp only [List.length_cons]; omega
      have := this listed.toList c (fun i hi => by have := hno i hi; simpa [Array.getD_eq_getD_getElem?, List.getD_eq_getElem?_getD] using this)
      rw [Array.length_toList, hsz] at this
      omega
    · exact hn D' R' s a' w' (Eqv.sr ⟨fun x => by rw [hSt.t, h4.t], fun x => by rw [hSt.m, h4.m], hSt.nx.trans h4.nx.symm, hSt.nt.trans h4.nt.symm⟩ hS) hF hR0 hds h4.nx h4.nt h5
  · simp [Array.getD_eq_getD_getElem?, Array.getElem?_replicate]
    split <;> simp
  · simp [Array.getD_eq_getD_getElem?, Array.getElem?_replicate] at hi
    split at hi <;> simp at hi
  · refine ⟨fun x => ?_, fun x => ?_, rfl, rfl⟩
    · rw [lastOf_upto (j := 0) (Nat.zero_le _) fun i _ hi => ?_]
      · rfl
      · simp [only, Array.getElem?_replicate]; split <;> simp
    · rw [lastOf_upto (j := 0) (Nat.zero_le _) fun i _ hi => ?_]
      · rfl
      · simp [only, Array.getElem?_replicate]; split <;> simp

end Go.Ev
