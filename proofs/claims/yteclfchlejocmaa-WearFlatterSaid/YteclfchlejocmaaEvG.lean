/-
  The law WearRates returns true for every climate and all numbers, and leaves its arguments as they were. No conditions.
-/
import Derived.Test.YteclfchlejocmaaEvF
import Derived.Laws.StructEq
set_option linter.unusedVariables false
set_option linter.unusedSimpArgs false
namespace Go.Ev
open Go Go.RowKit

variable {P : Program} {w0 : Base} {X D : Nat → Prop} {R : Nat → Option (Nat × Nat)} {st : St} {a : Act} {w : World}
variable {ro : Option Nat} {n : Nat} {o : Oper} {next : Act → World → Prop} {Q : Exit → Act → World → Prop} {ρ : Type} {K : Eff → Option ρ} {r : ρ} {site : Nat} {S : Spec} {RO : Nat → Bool}

/-- What an operation leaves as it was. -/
structure Fr (P : Program) (D : Nat → Prop) (R : Nat → Option (Nat × Nat)) (w : World) (site : Nat) (e : Eff) (D' : Nat → Prop) (R' : Nat → Option (Nat × Nat)) (w' : World) : Prop where
  R : ∀ id, id ≠ site → R' id = R id
  keep : ∀ b, b < w.heap.size → ¬ D b → ¬ D' b ∧ w'.heap[b]? = w.heap[b]?
  rows : ∀ b, D b → (∀ id blk s, e.m = some (id, blk) → R' id ≠ some (b, s)) → w'.heap[b]? = w.heap[b]?
/-- What follows an operation. -/
def After (P : Program) (w0 : Base) (X : Nat → Prop) (D : Nat → Prop) (R : Nat → Option (Nat × Nat)) (st : St) (a : Act) (w : World) (o : Oper) (site : Nat) {ρ : Type} (K : Eff → Option ρ) (r : ρ) (next : Act → World → Prop) : Prop :=
  ∀ D' R' e v' w', SR P w0 X D' R' (st.app o.dst e) (a.put o.dst v') w' → Fr P D R w site e D' R' w' → K e = some r → next (a.put o.dst v') w'

theorem put_nx (d : Option Nat) (v : AV) : (st.put d v).nx = st.nx := by cases d <;> rfl
theorem put_nt (d : Option Nat) (v : AV) : (st.put d v).nt = st.nt := by cases d <;> rfl
theorem app_nx (d : Option Nat) (e : Eff) : (st.app d e).nx = st.nx := by
  unfold St.app; rw [put_nx]; split <;> rfl
theorem app_nt (d : Option Nat) (e : Eff) : (st.app d e).nt = st.nt := by
  unfold St.app; rw [put_nt]; split <;> rfl

/-- An operation that yields a value and leaves the world alone. -/
theorem op_value (h : SR P w0 X D R st a w) (hb : ∀ x, o.dst = some x → x < st.nt) (hn : After P w0 X D R st a w o site K r next) {v : AV} {v' : Value} (hd : ∀ c, o.op ≠ .defer c)
    (hr : (execOp a.eval o).run P w = .ok (.value v') w) (hv : VR P D R w v v') (he : K ⟨v, none⟩ = some r) : o.wpIn (FW ro) n P a w next Q :=
  wpIn_value hd hr (hn D R ⟨v, none⟩ v' w (h.put hb hv) ⟨fun _ _ => rfl, fun _ _ h => ⟨h, rfl⟩, fun _ _ _ => rfl⟩ he)

theorem inR_wrap (k : IntKind) (x : Int) : k.min ≤ k.wrap x ∧ k.wrap x ≤ k.max := by
  cases k <;> simp only [IntKind.min, IntKind.max, IntKind.wrap, IntKind.signed, IntKind.bits] <;> simp <;> (try split) <;> omega
theorem cond_some {α : Type} {c : Bool} {x : Option α} {r : α} (h : cond c x none = some r) : c = true ∧ x = some r := by
  cases c <;> simp_all
theorem VR.int_inv {k : IntKind} {x : Int} {v : Value} (h : VR P D R w (.i k x) v) : v = .int k x ∧ k.min ≤ x ∧ x ≤ k.max := by
  cases h with
  | i h1 h2 => exact ⟨rfl, h1, h2⟩
theorem VR.bool_inv {x : Bool} {v : Value} (h : VR P D R w (.b x) v) : v = .bool x := by cases h; rfl
theorem VR.str_inv {x : ByteArray} {v : Value} (h : VR P D R w (.s x) v) : v = .string x ∧ x.size ≤ 9223372036854775807 := by
  cases h with
  | s h => exact ⟨rfl, h⟩

theorem tmod_in {k : IntKind} {x y : Int} (hx : k.min ≤ x ∧ x ≤ k.max) (hy : y ≠ 0) : k.min ≤ x.tmod y ∧ x.tmod y ≤ k.max := by
  have h1 : k.min ≤ 0 ∧ 0 ≤ k.max := by cases k <;> simp [IntKind.min, IntKind.max, IntKind.signed, IntKind.bits]
  have h2 := Int.natAbs_tmod x y
  have h3 : x.natAbs % y.natAbs ≤ x.natAbs := Nat.mod_le _ _
  rcases Int.le_total 0 x with h | h
  · have := Int.tmod_nonneg y h
    omega
  · have : x.tmod y ≤ 0 := by
      have e : x.tmod y = -((-x).tmod y) := by rw [Int.neg_tmod]; omega
      have := Int.tmod_nonneg y (show 0 ≤ -x by omega)
      omega
    omega

theorem binI_sound {op : BinOp} {k : IntKind} {x y : Int} {K : AV → Option ρ} (hx : k.min ≤ x ∧ x ≤ k.max) (h : binI op k x y K = some r) :
    ∃ v v', (∀ t, (Go.binOp op t (.int k x) (.int k y)).run P w = .ok v' w) ∧ VR P D R w v v' ∧ K v = some r := by
  cases op <;> simp only [binI] at h <;> first | (cases h; done) | skip
  case add => exact ⟨_, _, fun t => by simp [Go.binOp, Op.intArith], .i (inR_wrap k _).1 (inR_wrap k _).2, h⟩
  case sub => exact ⟨_, _, fun t => by simp [Go.binOp, Op.intArith], .i (inR_wrap k _).1 (inR_wrap k _).2, h⟩
  case mul => exact ⟨_, _, fun t => by simp [Go.binOp, Op.intArith], .i (inR_wrap k _).1 (inR_wrap k _).2, h⟩
  case quo =>
    cases hy : decide (y = 0) with
    | true => rw [hy] at h; cases h
    | false =>
      rw [hy] at h
      have hy' : ¬ y = 0 := by simpa using hy
      exact ⟨_, _, fun t => by simp [Go.binOp, Op.intDiv, hy'], .i (inR_wrap k _).1 (inR_wrap k _).2, h⟩
  case rem =>
    cases hy : decide (y = 0) with
    | true => rw [hy] at h; cases h
    | false =>
      rw [hy] at h
      have hy' : ¬ y = 0 := by simpa using hy
      exact ⟨_, _, fun t => by simp [Go.binOp, Op.intDiv, hy'], .i (tmod_in hx hy').1 (tmod_in hx hy').2, h⟩
  all_goals exact ⟨_, _, fun t => by simp [Go.binOp, Op.intCmp], .b, h⟩

theorem binS_sound {op : BinOp} {x y : ByteArray} {K : AV → Option ρ} (h : binS op x y K = some r) :
    ∃ v v', (∀ t, (Go.binOp op t (.string x) (.string y)).run P w = .ok v' w) ∧ VR P D R w v v' ∧ K v = some r := by
  cases op <;> simp only [binS] at h <;> first | (cases h; done) | skip
  case add =>
    obtain ⟨h1, h2⟩ := cond_some h
    have h1 : x.size + y.size ≤ 140737488355328 := of_decide_eq_true h1
    refine ⟨_, _, fun t => ?_, .s (x := x ++ y) (by simp; omega), h2⟩
    simp [Go.binOp, Op.stringOp, IntKind.max, IntKind.signed, IntKind.bits]
    omega
  all_goals exact ⟨_, _, fun t => by simp [Go.binOp, Op.stringOp], .b, h⟩

/-! ### Parts of structs; '==' -/
theorem VR.agg_inv {cs : List AV} {v : Value} (h : VR P D R w (.agg cs) v) : ∃ cv, v = .agg cv ∧ cv.size = cs.length ∧ ∀ k, k < cs.length → VR P D R w (cs.getD k .u) (cv.getD k undef) := by
  cases h with
  | agg h1 h2 => exact ⟨_, rfl, h1, h2⟩
theorem run_sizeOf_of {t : TypeId} {d : TypeDesc} (h : P.underlying t = some d) (w : World) : (sizeOf t).run P w = .ok (P.cellsOf t) w := by
  unfold Program.underlying at h
  cases hi : P.info? t with
  | none => simp [hi] at h
  | some i => simp [sizeOf, typeInfo, hi, Program.cellsOf]
theorem partV_sound {t : TypeId} {cs : List AV} {cv : Array Value} {off : Nat} {x : AV} (hs : cv.size = cs.length) (hv : ∀ k, k < cs.length → VR P D R w (cs.getD k .u) (cv.getD k undef)) (h : partV P t cs off = some x) :
    ∃ v, (part t cv off).run P w = .ok v w ∧ VR P D R w x v := by
  unfold partV at h
  cases hu : P.underlying t with
  | none => rw [hu] at h; cases h
  | some d =>
    rw [hu] at h
    simp only at h
    simp only [part, Sem.run_bind, run_isAgg' hu, Result.andThen_ok]
    cases hA : isAgg P t with
    | true =>
      rw [hA] at h
      simp only [cond_true, Option.some.injEq] at h
      subst h
      refine ⟨.agg (cv.extract off (off + P.cellsOf t)), by simp [run_sizeOf_of hu], .agg ?_ fun k hk => ?_⟩
      · simp [hs]; omega
      · simp only [List.length_take, List.length_drop] at hk
        have h1 : off + k < cs.length := by omega
        have := hv (off + k) h1
        have h2 : off + k < cv.size := by omega
        simpa [List.getD_eq_getElem?_getD, Array.getD_eq_getD_getElem?, List.getElem?_take, show k < P.cellsOf t by omega, Array.getElem?_extract, show k < min (off + P.cellsOf t) cv.size - off by omega, h1, h2] using this
    | false =>
      rw [hA] at h
      simp only [cond_false] at h
      have hlt : off < cs.length := (List.getElem?_eq_some_iff.1 h).1
      have h2 : off < cv.size := by omega
      refine ⟨cv[off], by simp [h2], ?_⟩
      have := hv off hlt
      simpa [List.getD_eq_getElem?_getD, Array.getD_eq_getD_getElem?, h, h2] using this

theorem eqFs_sound {d : Nat} {ev : TypeId → AV → AV → Option Bool} {xs ys : List AV} {xv yv : Array Value}
    (hev : ∀ t x y b v u, ev t x y = some b → VR P D R w x v → VR P D R w y u → (Op.equalIn d t v u).run P w = .ok b w)
    (hx : xv.size = xs.length) (hxv : ∀ k, k < xs.length → VR P D R w (xs.getD k .u) (xv.getD k undef))
    (hy : yv.size = ys.length) (hyv : ∀ k, k < ys.length → VR P D R w (ys.getD k .u) (yv.getD k undef)) :
    ∀ {fs : List Field} {b : Bool}, eqFs P ev xs ys fs = some b → (Op.eqFields d xv yv fs).run P w = .ok b w
  | [], b, h => by
    simp only [eqFs, Option.some.injEq] at h
    subst h
    simp [Op.eqFields]
  | f :: fs, b, h => by
    simp only [eqFs] at h
    obtain ⟨hn, h⟩ := cond_some h
    have hn' : f.name ≠ "_" := by simpa using hn
    cases h1 : partV P f.type xs f.offset with
    | none => simp [h1] at h
    | some x =>
      cases h2 : partV P f.type ys f.offset with
      | none => simp [h1, h2] at h
      | some y =>
        simp only [h1, h2] at h
        obtain ⟨v, r1, v1⟩ := partV_sound hx hxv h1
        obtain ⟨u, r2, v2⟩ := partV_sound hy hyv h2
        cases he : ev f.type x y with
        | none => simp [he] at h
        | some r =>
          have r3 := hev _ _ _ _ _ _ he v1 v2
          rw [Op.eqFields, if_pos hn']
          simp only [Sem.run_bind, r1, r2, r3, Result.andThen_ok]
          cases fs with
          | nil =>
            simp only [he, Option.some.injEq] at h
            subst h
            cases r <;> simp [Op.eqFields]
          | cons g gs =>
            cases hs : eqFs P ev xs ys (g :: gs) with
            | none => simp [he, hs] at h
            | some s =>
              simp only [he, hs, Option.some.injEq] at h
              subst h
              have ih := eqFs_sound hev hx hxv hy hyv hs
              cases r
              · simp
              · simpa using ih

theorem eqV_sound : ∀ {d : Nat} {t : TypeId} {x y : AV} {b : Bool} {v u : Value} {d' : Nat}, d ≤ d' → eqV P d t x y = some b → VR P D R w x v → VR P D R w y u → (Op.equalIn d' t v u).run P w = .ok b w
  | 0, _, _, _, _, _, _, _, _, h, _, _ => by simp [eqV] at h
  | d + 1, t, x, y, b, v, u, 0, hd, _, _, _ => by omega
  | d + 1, t, x, y, b, v, u, d' + 1, hd, h, hx, hy => by
    simp only [eqV] at h
    split at h
    · rename_i hu
      cases h; cases hx; cases hy
      exact run_equalIn_bool' w d' t _ _ hu
    · rename_i hu
      obtain ⟨hk, h⟩ := cond_some h
      cases h
      obtain ⟨rfl, _⟩ := hx.int_inv
      obtain ⟨rfl, _⟩ := hy.int_inv
      have := of_decide_eq_true hk
      subst this
      exact run_equalIn_int w d' t _ _ _ _ hu
    · rename_i hu
      cases h
      obtain ⟨rfl, _⟩ := hx.str_inv
      obtain ⟨rfl, _⟩ := hy.str_inv
      exact run_equalIn_string w d' t _ _ hu
    · rename_i fs xs ys hu
      obtain ⟨hp, h⟩ := cond_some h
      obtain ⟨xv, rfl, h1, h2⟩ := hx.agg_inv
      obtain ⟨yv, rfl, h3, h4⟩ := hy.agg_inv
      have hf : P.fieldsOf t = fs := by simp [Program.fieldsOf, hu]
      rw [run_equalIn_struct (P := P) w d' t xv yv (by rw [hf]; exact hu) (by simpa using hp), hf]
      exact eqFs_sound (fun t x y b v u h hx hy => eqV_sound (by omega) h hx hy) h1 h2 h3 h4 h
    · cases h
end Go.Ev
