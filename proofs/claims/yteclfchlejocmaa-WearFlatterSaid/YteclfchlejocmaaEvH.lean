/-
  The law WearRates returns true for every climate and all numbers, and leaves its arguments as they were. No conditions.
-/
import Derived.Test.YteclfchlejocmaaEvG
import Derived.Laws.ByValue
set_option linter.unusedVariables false
set_option linter.unusedSimpArgs false
namespace Go.Ev
open Go Go.RowKit

variable {P : Program} {w0 : Base} {X D : Nat → Prop} {R : Nat → Option (Nat × Nat)} {st : St} {a : Act} {w : World}
variable {ro : Option Nat} {n : Nat} {o : Oper} {next : Act → World → Prop} {Q : Exit → Act → World → Prop} {ρ : Type} {K : Eff → Option ρ} {r : ρ} {site : Nat} {S : Spec} {RO : Nat → Bool}

theorem run_asBool {x : Bool} : (asBool (.bool x)).run P w = .ok x w := rfl

theorem best_sound {mx : Bool} : ∀ {l : List AV} {x v : AV} {lv : List Value} {xv : Value}, best (if mx then bmax else bmin) x l = some v → VR P D R w x xv → lv.length = l.length →
    (∀ k, k < l.length → VR P D R w (l.getD k .u) (lv.getD k undef)) → ∃ u, (lv.foldlM (if mx then Builtin.max2 else Builtin.min2) xv).run P w = .ok u w ∧ VR P D R w v u
  | [], x, v, lv, xv, h, hx, hl, _ => by
    obtain rfl : lv = [] := by simpa using hl
    cases x <;> simp only [best] at h <;> first | (cases h; done) | skip
    cases h
    exact ⟨xv, by simp [List.foldlM], hx⟩
  | y :: l, x, v, lv, xv, h, hx, hl, hv => by
    match lv, hl with
    | yv :: lv, hl =>
      have hy := hv 0 (by simp)
      simp only [List.getD_cons_zero] at hy
      cases x with
      | i k p =>
        cases y with
        | i k' q =>
          simp only [best] at h
          obtain ⟨hk, h2⟩ := cond_some h
          have := of_decide_eq_true hk
          subst this
          obtain ⟨rfl, p1, p2⟩ := hx.int_inv
          obtain ⟨rfl, q1, q2⟩ := hy.int_inv
          have hbnd : VR P D R w (.i k ((if mx then bmax else bmin) p q)) (.int k ((if mx then bmax else bmin) p q)) := by
            cases mx <;> simp only [bmax, bmin, if_true, if_false, Bool.false_eq_true] <;> split <;> exact .i (by assumption) (by assumption)
          obtain ⟨u, g1, g2⟩ := best_sound (mx := mx) (lv := lv) h2 hbnd (by simpa using hl) (fun j hj => by simpa using hv (j + 1) (by simpa using hj))
          refine ⟨u, ?_, g2⟩
          simp only [List.foldlM, Sem.run_bind]
          cases mx
          · simpa [Builtin.min2, bmin] using g1
          · simpa [Builtin.max2, bmax] using g1
        | _ => simp [best] at h
      | _ => cases y <;> simp [best] at h

theorem getD_map {α β : Type} (f : α → β) (l : List α) (k : Nat) (d : α) (d' : β) (h : k < l.length) : (l.map f).getD k d' = f (l.getD k d) := by
  simp [List.getD_eq_getElem?_getD, h]

/-- The arguments of a call. -/
theorem args_at (h : SR P w0 X D R st a w) (l : List Operand) : ∀ k, k < (l.map (val st)).length → VR P D R w ((l.map (val st)).getD k .u) ((l.map a.eval).getD k undef) := by
  intro k hk
  simp only [List.length_map] at hk
  rw [getD_map _ _ _ (.const Go.undef) _ hk, getD_map _ _ _ (.const Go.undef) _ hk]
  exact h.val _
theorem fitArgs_length : ∀ (ts : List TypeId) (l : List AV), (fitArgs P ts l).length = l.length
  | [], _ => rfl
  | _ :: _, [] => rfl
  | t :: ts, v :: vs => by simp [fitArgs, fitArgs_length ts vs]
theorem fitArgs_at : ∀ (ts : List TypeId) (l : List AV) (lv : List Value), (∀ k, k < l.length → VR P D R w (l.getD k .u) (lv.getD k undef)) → ∀ k, k < l.length → VR P D R w ((fitArgs P ts l).getD k .u) (lv.getD k undef)
  | [], _, _, h => h
  | _ :: _, [], _, h => h
  | t :: ts, v :: vs, lv, h => by
    intro k hk
    cases k with
    | zero => simpa [fitArgs] using VR_fitT t (by simpa using h 0 (by simp))
    | succ k =>
      have := fitArgs_at ts vs lv.tail (fun j hj => by
        have := h (j + 1) (by simpa using hj)
        cases lv <;> simpa using this) k (by simpa using hk)
      cases lv <;> simpa [fitArgs] using this

/-- New cells. -/
theorem fresh_sound (h : SR P w0 X D R st a w) (hf : R site = none) (hb : ∀ x, o.dst = some x → x < st.nt) (hn : After P w0 X D R st a w o site K r next) (hd : ∀ c, o.op ≠ .defer c)
    {t : TypeId} {cs : List AV} {cv : Array Value} (hW : WTs P (cts P t) cs) (hs : cv.size = cs.length) (hv : ∀ k, k < cs.length → VR P D R w (cs.getD k .u) (cv.getD k undef))
    (hr : (execOp a.eval o).run P w = .ok (.value (.pointer (some ⟨w.heap.size, 0, none⟩))) (w.alloc (.cells cv t)))
    (he : fresh P RO site o.dst t cs K = some r) : o.wpIn (FW ro) n P a w next Q := by
  unfold fresh at he
  obtain ⟨ho, he⟩ := cond_some he
  obtain ⟨h1, h2, _⟩ := okT_spec ho
  have hl : cs.length = P.cellsOf t := by rw [hW.1, h1]
  cases hro : (o.dst.map RO).getD false with
  | true =>
    rw [hro] at he
    have h' := h.world (below_alloc' w (.cells cv t))
    have hp := VR_new_rp (P := P) (R := R) (t := t) h.lt hs (by omega) hW hv
    exact wpIn_value hd hr (hn D R ⟨_, none⟩ _ _ (h'.put hb hp) ⟨fun _ _ => rfl, fun b hlt hd => ⟨hd, (below_alloc' w _).block b hlt⟩, fun b hd _ => (below_alloc' w _).block b (h.lt b hd)⟩ he)
  | false =>
    rw [hro] at he
    have h' := h.fresh (t := t) (es := [cs]) (cv := cv) hf h1 h2 (by simp [hs, hl]) (.sl (by simp) (fun x hx => by
      obtain rfl := List.mem_singleton.1 hx
      exact hW.1) (fun x hx j hj => by
      obtain rfl := List.mem_singleton.1 hx
      exact hW.2 j hj)) (fun i j hi hj => by
      have : i = 0 := by simpa using hi
      subst this
      have hj' : j < cs.length := by omega
      refine ⟨cv.getD j Go.undef, ?_, by simpa using hv j hj'⟩
      have : j < cv.size := by omega
      simp [Array.getD_eq_getD_getElem?, this])
    have hp : VR P (fun b => D b ∨ b = w.heap.size) (fun id => if id = site then some (w.heap.size, P.cellsOf t) else R id) (w.alloc (.cells cv t)) (.p site 0 0) (.pointer (some ⟨w.heap.size, 0, none⟩)) := by
      have : VR P (fun b => D b ∨ b = w.heap.size) (fun id => if id = site then some (w.heap.size, P.cellsOf t) else R id) (w.alloc (.cells cv t)) (.p site 0 0) (.pointer (some ⟨w.heap.size, 0 * P.cellsOf t + 0, none⟩)) := .p (by simp)
      simpa using this
    exact wpIn_value hd hr (hn _ _ ⟨_, some (site, .row t [cs])⟩ _ _ (h'.put hb hp) ⟨fun id hid => by simp [hid], fun b hlt hd => ⟨fun e => by
      rcases e with e | e
      · exact hd e
      · omega, (below_alloc' w _).block b hlt⟩, fun b hd _ => (below_alloc' w _).block b (h.lt b hd)⟩ he)

theorem zeroOf_sound {t : TypeId} {cs : List AV} (h : zeroOf P t = some cs) : ∃ i z, P.info? t = some i ∧ i.zero = some z ∧ WTs P (cts P t) cs ∧ z.cells.size = cs.length ∧ ∀ k, k < cs.length → VR P D R w (cs.getD k .u) (z.cells.getD k undef) := by
  unfold zeroOf at h
  cases hi : P.info? t with
  | none => simp [hi] at h
  | some i =>
    cases hz : i.zero with
    | none => simp [hi, hz] at h
    | some z =>
      simp only [hi, Option.bind_some, hz] at h
      obtain ⟨g1, g2, g3, _⟩ := fitCs_sound (P := P) (D := D) (R := R) (w := w) (cv := z.cells.toList) h (by simp) (fun k hk => by
        simp only [List.length_map] at hk
        rw [getD_map _ _ _ Go.undef _ hk]
        exact VR_ofC _)
      refine ⟨i, z, rfl, hz, g1, by simpa using g2.symm, fun k hk => ?_⟩
      have := g3 k hk
      simpa [Array.getD_eq_getD_getElem?, List.getD_eq_getElem?_getD] using this
end Go.Ev
