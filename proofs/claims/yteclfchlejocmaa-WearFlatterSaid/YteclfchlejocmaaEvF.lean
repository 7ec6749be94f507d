/-
  The law WearRates returns true for every climate and all numbers, and leaves its arguments as they were. No conditions.
-/
import Derived.Test.YteclfchlejocmaaEvE
set_option linter.unusedVariables false
set_option linter.unusedSimpArgs false
namespace Go.Ev
open Go Go.RowKit

variable {P : Program} {w0 : Base} {X D : Nat → Prop} {R : Nat → Option (Nat × Nat)} {st : St} {a : Act} {w : World}

theorem noOth_cell {d : Nat} {e : TypeId} (h : noOth P (d + 1) e = true) {k : Nat} (hk : k < (cts P e).length) : okc P d ((cts P e).getD k .oth) = true := by
  simp only [noOth] at h
  have := List.all_eq_true.1 h ((cts P e)[k]) (List.getElem_mem hk)
  simpa [List.getD_eq_getElem?_getD, List.getElem?_eq_getElem hk, okc] using this
theorem freeL_at {nb : Nat} : ∀ {l : List AV} {k : Nat}, freeL P nb l = true → k < l.length → free P nb (l.getD k .u) = true
  | [], k, _, hk => by simp at hk
  | a :: r, 0, h, _ => by simp only [freeL, Bool.and_eq_true] at h; simpa using h.1
  | a :: r, k + 1, h, hk => by
    simp only [freeL, Bool.and_eq_true] at h
    simpa using freeL_at h.2 (by simpa using hk)

/-- A value that leads to no row but for some is the same wherever the others lie. -/
theorem VR.free_any {nb : Nat} {R' : Nat → Option (Nat × Nat)} (hR : ∀ id, id < nb → R' id = R id) {x : AV} {v : Value} (h : VR P D R w x v) :
    (free P nb x = true → VR P D R' w x v) ∧ (∀ c d, WT P c x → okc P d c = true → VR P D R' w x v) := by
  induction h with
  | b => exact ⟨fun _ => .b, fun _ _ _ _ => .b⟩
  | i h1 h2 => exact ⟨fun _ => .i h1 h2, fun _ _ _ _ => .i h1 h2⟩
  | s h1 => exact ⟨fun _ => .s h1, fun _ _ _ _ => .s h1⟩
  | nl => exact ⟨fun _ => .nl, fun _ _ _ _ => .nl⟩
  | rs0 => exact ⟨fun _ => .rs0, fun _ _ _ _ => .rs0⟩
  | @rs e es b o c f h1 hz h2 h3 h4 h5 h6 h7 ih =>
    have key : ∀ d, noOth P d e = true → VR P D R' w (.rs e es) (.slice (some ⟨b, o, none⟩) es.length c) := by
      intro d hd
      cases d with
      | zero => simp [noOth] at hd
      | succ d =>
        refine .rs h1 hz h2 h3 h4 h5 h6 fun i j hi hj => ?_
        obtain ⟨g1, g2, g3⟩ : es.length ≤ 9223372036854775807 ∧ (∀ x, x ∈ es → x.length = (cts P e).length) ∧ (∀ x, x ∈ es → ∀ j, j < x.length → WT P ((cts P e).getD j .oth) (x.getD j .u)) := by
          cases h5 with
          | sl a b c => exact ⟨a, b, c⟩
        have hx : es.getD i [] ∈ es := by simp [List.getD_eq_getElem?_getD, List.getElem?_eq_getElem hi]
        exact (ih i j hi hj).2 _ d (g3 _ hx j (by rw [g2 _ hx, h3]; exact hj)) (noOth_cell hd (by rw [h3]; exact hj))
    refine ⟨fun hf => key 8 (by simpa [free] using hf), fun c d hW ho => ?_⟩
    cases hW with
    | sl => exact key d (by simpa [okc] using ho)
    | oth => simp [okc] at ho
  | sl h1 h2 h3 => exact ⟨fun hf => .sl ((hR _ (by simpa [free, Nat.blt_eq] using hf)).trans h1) h2 h3, fun c d hW ho => by cases hW; simp [okc] at ho⟩
  | p h1 => exact ⟨fun hf => .p ((hR _ (by simpa [free, Nat.blt_eq] using hf)).trans h1), fun c d hW ho => by cases hW; simp [okc] at ho⟩
  | @rp all cs j b o f h1 h0 h2 h3 h4 ih =>
    refine ⟨fun hf => .rp h1 h0 h2 h3 fun k hk => ?_, fun c d hW ho => by cases hW; simp [okc] at ho⟩
    have hk' : k < all.length := by rw [← h2.1]; exact hk
    simp only [free, Bool.or_eq_true] at hf
    rcases hf with hf | hf
    · have := List.all_eq_true.1 hf (all[k]) (List.getElem_mem hk')
      exact (ih k hk).2 _ 8 (h2.2 k hk) (by simpa [List.getD_eq_getElem?_getD, List.getElem?_eq_getElem hk'] using this)
    · exact (ih k hk).1 (freeL_at hf hk)
  | np => exact ⟨fun _ => .np, fun _ _ _ _ => .np⟩
  | fn h1 _ ih => exact ⟨fun hf => .fn h1 fun k hk => (ih k hk).1 (freeL_at (by simpa [free] using hf) hk), fun c d hW ho => by cases hW; simp [okc] at ho⟩
  | nf => exact ⟨fun _ => .nf, fun _ _ _ _ => .nf⟩
  | yl => exact ⟨fun _ => .yl, fun _ _ _ _ => .yl⟩
  | ni => exact ⟨fun _ => .ni, fun _ _ _ _ => .ni⟩
  | ifc _ ih => exact ⟨fun hf => .ifc (ih.1 (by simpa [free] using hf)), fun c d hW ho => by cases hW; simp [okc] at ho⟩
  | agg h1 _ ih => exact ⟨fun hf => .agg h1 fun k hk => (ih k hk).1 (freeL_at (by simpa [free] using hf) hk), fun c d hW ho => by cases hW; simp [okc] at ho⟩
  | tup h1 _ ih => exact ⟨fun hf => .tup h1 fun k hk => (ih k hk).1 (freeL_at (by simpa [free] using hf) hk), fun c d hW ho => by cases hW; simp [okc] at ho⟩
  | u => exact ⟨fun hf => .u, fun c d hW ho => .u⟩

/-! ### What is said of a function -/
def none2 : Nat → Option (Nat × Nat) := fun _ => none
/-- Called with values that are 'args', the function returns one that is 'v', and nothing that was there has turned. -/
structure Con (P : Program) (f : FuncId) (args : List AV) (v : AV) : Prop where
  fn : ∃ fn, P.funcs[f]? = some fn ∧ (fn.name == "runtime.NumGoroutine") = false ∧ fn.body.isSome = true
  calls : ∀ (X : Nat → Prop) (w : World) (av : Array Value), (∀ b, X b → b < w.heap.size) → av.size = args.length →
    (∀ k, k < args.length → VR P X none2 w (args.getD k .u) (av.getD k undef)) →
    Calls P f av w fun e w' => ∃ v', e = .returned v' ∧ VR P X none2 w' v v' ∧ Below w.heap.size w w'
def SpecOK (P : Program) (S : Spec) : Prop := ∀ f args pre v, S f args = some (pre, v) → pre = true → Con P f args v

/-- The fence of everything, in a round or not. -/
def FW (ro : Option Nat) : Fence := { Fence.wide with round := ro }
theorem callsIn_FW {ro : Option Nat} {n : Nat} {f : FuncId} {args : Array Value} {Q : Ending → World → Prop} (h : Calls P f args w Q) : CallsIn (FW ro) n P f args w Q :=
  (callsIn_wide (n := n)).2 h
theorem calls_of_FW {ro : Option Nat} {n : Nat} {f : FuncId} {args : Array Value} {Q : Ending → World → Prop} (h : CallsIn (FW ro) n P f args w Q) : Calls P f args w Q :=
  (callsIn_wide (n := n)).1 h

variable {ro : Option Nat} {n : Nat} {o : Oper} {next : Act → World → Prop} {Q : Exit → Act → World → Prop}
theorem wpIn_value {v : Value} {w' : World} (hd : ∀ c, o.op ≠ .defer c) (h : (execOp a.eval o).run P w = .ok (.value v) w') (hn : next (a.put o.dst v) w') : o.wpIn (FW ro) n P a w next Q := by
  refine ⟨fun _ _ => trivial, ?_⟩
  rw [Oper.semAt_eq _ _ _ hd, h]
  exact hn
theorem wpIn_skip' {w' : World} (hd : ∀ c, o.op ≠ .defer c) (h : (execOp a.eval o).run P w = .ok .skip w') (hn : next (a.put o.dst undef) w') : o.wpIn (FW ro) n P a w next Q := by
  refine ⟨fun _ _ => trivial, ?_⟩
  rw [Oper.semAt_eq _ _ _ hd, h]
  exact hn
theorem wpIn_enter {f : FuncId} {args : Array Value} {w' : World} (hd : ∀ c, o.op ≠ .defer c) (h : (execOp a.eval o).run P w = .ok (.enter f args) w')
    {A : Ending → World → Prop} (hc : Calls P f args w' A) (hn : ∀ e w'', A e w'' → ∃ v, e = .returned v ∧ next (a.put o.dst v) w'') : o.wpIn (FW ro) n P a w next Q := by
  refine ⟨fun _ _ => trivial, ?_⟩
  rw [Oper.semAt_eq _ _ _ hd, h]
  refine ⟨fun h => by simp [FW, Fence.wide] at h, callsIn_FW (hc.mono ?_)⟩
  intro e w'' hA
  obtain ⟨v, rfl, hn⟩ := hn e w'' hA
  exact hn
end Go.Ev
