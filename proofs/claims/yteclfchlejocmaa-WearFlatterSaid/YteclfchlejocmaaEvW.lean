/-
  The law WearRates returns true for every climate and all numbers, and leaves its arguments as they were. No conditions.
-/
import Derived.Test.YteclfchlejocmaaEvV
import Derived.SizedLaws
set_option linter.unusedVariables false
set_option linter.unusedSimpArgs false
namespace Go.Ev
open Go Go.RowKit Go.ChangeShapes

variable {P : Program} {W W' : World} {H : Type} {enc : TypeId × Value → H}

/-- An argument of a type, by value. -/
def TyArg (P : Program) (t : TypeId) (av : AV) : Prop :=
  (isAgg P t = true ∧ ∃ as, av = .agg as ∧ WTs P (cts P t) as) ∨ (isAgg P t = false ∧ WT P ((cts P t).headD .oth) av)
def TyArgs (P : Program) : List TypeId → List AV → Prop
  | [], [] => True
  | t :: ts, a :: as => TyArg P t a ∧ TyArgs P ts as
  | _, _ => False

theorem arg_VR {t : TypeId} {v : Value} {d : DataW H} {p : List MemPlace} {b0 : Nat} {spare : Nat → Bool} {held : Bool} {base : Nat} {r : Reach} (hl : layOK P 4 t = true) (ho : okT P t = true) (hv : Value.okWide P W r b0 t v) (h : DataW.Trod enc P W base spare held t v d p) :
    ∃ av, TyArg P t av ∧ VR P (fun _ => False) none2 W av v := by
  obtain ⟨n, hn⟩ := h
  obtain ⟨as, h1, h2, h3⟩ := trod_VR (X := fun _ => False) (fun _ h => h) n 3 8 t v.cells.toList (d, p) hn hl
  obtain ⟨o1, o2, o3⟩ := okT_spec ho
  have hcl : (ctsOf P 8 t).length = P.cellsOf t := o1
  unfold Value.okWide at hv
  cases hA : isAgg P t with
  | true =>
    have : ∃ cs, v = .agg cs ∧ cs.size = P.cellsOf t := by
      unfold isAgg at hA
      cases hu : P.underlying t with
      | none => rw [hu] at hA; cases hA
      | some td =>
        rw [hu] at hA hv
        cases td <;> simp only at hA hv <;> first | (cases hA; done) | (obtain ⟨cs, g1, g2, _⟩ := hv; exact ⟨cs, g1, g2⟩)
    obtain ⟨cs, rfl, hs⟩ := this
    refine ⟨.agg as, .inl ⟨hA, as, rfl, h2⟩, .agg (by omega) fun k hk => ?_⟩
    have := h3 k hk
    simpa [Value.cells, List.getD_eq_getElem?_getD, Array.getD_eq_getD_getElem?] using this
  | false =>
    have hne : ∀ cs, v ≠ .agg cs := by
      intro cs e
      subst e
      unfold isAgg at hA
      cases hu : P.underlying t with
      | none => rw [hu] at hv; simp [Cell.okWide, Cell.ok, hu] at hv
      | some td =>
        rw [hu] at hA hv
        cases td <;> simp only at hA hv <;> first | (cases hA; done) | (simp [Cell.okWide, Cell.ok, hu] at hv; done)
    have hone : v.cells = #[v] := by cases v <;> first | rfl | exact absurd rfl (hne _)
    have h1' : as.length = 1 := by rw [h1]; exact o3 hA
    refine ⟨as.getD 0 .u, .inr ⟨hA, ?_⟩, ?_⟩
    · have := h2.2 0 (by omega)
      have e : (ctsOf P 8 t).getD 0 .oth = (cts P t).headD .oth := by
        show (cts P t).getD 0 .oth = _
        cases cts P t <;> rfl
      rw [← e]; exact this
    · have := h3 0 (by omega)
      rw [hone] at this
      simpa using this

theorem trodAll_VR {b0 : Nat} {spare : Nat → Bool} {held : Bool} {base : Nat} {r : Reach} : ∀ {ts : List TypeId} {vs : List Value} {ds : List (DataW H)} {p : List MemPlace}, ts.all (fun t => layOK P 4 t && okT P t) = true →
    (∀ (j : Nat) t v, ts[j]? = some t → vs[j]? = some v → Value.okWide P W r b0 t v) → DataW.TrodAll enc P W base spare held ts vs ds p →
    ∃ avs, TyArgs P ts avs ∧ avs.length = vs.length ∧ ∀ k, k < avs.length → VR P (fun _ => False) none2 W (avs.getD k .u) (vs.getD k undef)
  | [], vs, ds, p, _, _, h => by
    obtain ⟨rfl, rfl, rfl⟩ := trodAll_nil h
    exact ⟨[], trivial, rfl, fun k hk => by simp at hk⟩
  | t :: ts, vs, ds, p, hl, hv, h => by
    obtain ⟨v, vs', d, ds', p1, q1, rfl, rfl, rfl, h1, h2⟩ := trodAll_cons h
    simp only [List.all_cons, Bool.and_eq_true] at hl
    obtain ⟨av, g1, g2⟩ := arg_VR hl.1.1 hl.1.2 (hv 0 t v rfl rfl) h1
    obtain ⟨avs, q1, q2, q3⟩ := trodAll_VR hl.2 (fun j t v ht hvj => hv (j + 1) t v (by simpa using ht) (by simpa using hvj)) h2
    refine ⟨av :: avs, ⟨g1, q1⟩, by simp [q2], fun k hk => ?_⟩
    cases k with
    | zero => simpa using g2
    | succ k => simpa using q3 k (by simpa using hk)

theorem trodAll_below (hl : laidOutB P = true) : ∀ {ts : List TypeId} {vs : List Value} {ds : List (DataW H)} {p : List MemPlace}, ts.all (fun t => P.readableRec t && Nat.blt t P.types.size) = true →
    DataW.TrodAll enc P W 0 (fun _ => true) true ts vs ds p → Below W.heap.size W W' → DataW.TrodAll enc P W' 0 (fun b => decide (b < W.heap.size)) true ts vs ds p
  | [], vs, ds, p, _, h, _ => by
    obtain ⟨rfl, rfl, rfl⟩ := trodAll_nil h
    exact trodAll_mk0
  | t :: ts, vs, ds, p, hr, h, hb => by
    obtain ⟨v, vs', d, ds', p1, q1, rfl, rfl, rfl, h1, h2⟩ := trodAll_cons h
    simp only [List.all_cons, Bool.and_eq_true] at hr
    refine trodAll_cons_mk (Below.trod hl hr.1.1 (by simpa [Nat.blt_eq] using hr.1.2) h1 hb ?_) (trodAll_below hl hr.2 h2 hb)
    obtain ⟨n, hn⟩ := h1
    exact DataW.trod_lt n t v.cells.toList _ hn

theorem trodAll_len {b : Nat} {spare : Nat → Bool} {held : Bool} : ∀ {ts : List TypeId} {vs : List Value} {ds : List (DataW H)} {p : List MemPlace}, DataW.TrodAll enc P W b spare held ts vs ds p → vs.length = ts.length ∧ ds.length = ts.length
  | [], vs, ds, p, h => by
    obtain ⟨rfl, rfl, rfl⟩ := trodAll_nil h
    exact ⟨rfl, rfl⟩
  | t :: ts, vs, ds, p, h => by
    obtain ⟨v, vs', d, ds', p1, q1, rfl, rfl, rfl, h1, h2⟩ := trodAll_cons h
    obtain ⟨g1, g2⟩ := trodAll_len h2
    exact ⟨by simp [g1], by simp [g2]⟩
/-- A law: what it gives for all arguments of its types. -/
theorem law_calls {f : FuncId} {fn : Func} {args : Array Value} {b0 : Nat} {spare : Nat → Bool} {held : Bool} {base : Nat} {r : Reach} {ds : List (DataW H)} {p : List MemPlace} {ts : List TypeId} (hts : fn.params.toList = ts) (hl : ts.all (fun t => layOK P 4 t && okT P t) = true)
    (law : ∀ avs, TyArgs P ts avs → Con P f avs (.b true))
    (hval : ∀ (j : Nat) t v, fn.params[j]? = some t → args[j]? = some v → Value.okWide P W r b0 t v) (hA : DataW.TrodAll enc P W base spare held ts args.toList ds p) :
    Calls P f args W fun e W' => e = .returned (.bool true) ∧ Below W.heap.size W W' := by
  obtain ⟨avs, h1, h2, h3⟩ := trodAll_VR hl (fun j t v ht hv => hval j t v (by rw [← hts] at ht; simpa using ht) (by simpa using hv)) hA
  refine ((law avs h1).calls (fun _ => False) W args (fun b h => h.elim) (by simpa using h2.symm) fun k hk => ?_).mono ?_
  · have := h3 k hk
    simpa [List.getD_eq_getElem?_getD, Array.getD_eq_getD_getElem?] using this
  · rintro e w' ⟨v', rfl, hv, hb⟩
    rw [hv.bool_inv]
    exact ⟨rfl, hb⟩
end Go.Ev
