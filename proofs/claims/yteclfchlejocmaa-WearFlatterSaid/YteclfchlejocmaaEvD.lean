/-
  The law WearRates returns true for every climate and all numbers, and leaves its arguments as they were. No conditions.
-/
import Derived.Test.YteclfchlejocmaaEvC
set_option linter.unusedVariables false
set_option linter.unusedSimpArgs false
namespace Go.Ev
open Go Go.RowKit

variable {P : Program} {w0 : Base} {X D : Nat → Prop} {R : Nat → Option (Nat × Nat)} {st : St} {a : Act} {w : World}

theorem getD_push {cs : List AV} {v : AV} : True := trivial

theorem fitC_sound {c : CT} {v x : AV} {v' : Value} (h : fitC c v = some x) (hv : VR P D R w v v') : VR P D R w x v' ∧ WT P c x ∧ v'.oneCell' = true ∧ cellsOf v = [v] ∧ v'.cells = #[v'] := by
  unfold fitC at h
  split at h <;> first | (cases h; done) | skip
  · rename_i k k' n
    cases hk : decide (k = k') with
    | false => rw [hk] at h; cases h
    | true =>
      rw [hk] at h
      simp only [cond_true, Option.some.injEq] at h
      subst h
      cases hv with
      | i h1 h2 =>
        have : k = k' := of_decide_eq_true hk
        subst this
        exact ⟨.i h1 h2, .int h1 h2, rfl, rfl, rfl⟩
  · cases h; cases hv; exact ⟨.b, .bool, rfl, rfl, rfl⟩
  · cases h
    cases hv with
    | s h1 => exact ⟨.s h1, .str h1, rfl, rfl, rfl⟩
  · rename_i e e' es
    cases hk : Nat.beq e e' with
    | false => rw [hk] at h; cases h
    | true =>
      rw [hk] at h
      simp only [cond_true, Option.some.injEq] at h
      have := Nat.eq_of_beq_eq_true hk
      subst this; subst h
      cases hv with
      | rs0 => exact ⟨.rs0, .sl (by simp) (by simp) (by simp), rfl, rfl, rfl⟩
      | rs h1 hz h2 h3 h4 h5 h6 h7 => exact ⟨.rs h1 hz h2 h3 h4 h5 h6 h7, h5, rfl, rfl, rfl⟩
  · cases h; cases hv; exact ⟨.rs0, .sl (by simp) (by simp) (by simp), rfl, rfl, rfl⟩
  all_goals (cases h; cases hv; refine ⟨?_, .oth, rfl, rfl, rfl⟩)
  · exact .fn ‹_› ‹_›
  · exact .nf
  · exact .yl
  · exact .np
  · exact .p ‹_›
  · exact .rp ‹_› ‹_› ‹_› ‹_› ‹_›
  · exact .ni

theorem fitCs_sound : ∀ {all : List CT} {cs x : List AV} {cv : List Value}, fitCs all cs = some x → cv.length = cs.length → (∀ k, k < cs.length → VR P D R w (cs.getD k .u) (cv.getD k undef)) →
    WTs P all x ∧ x.length = cs.length ∧ (∀ k, k < x.length → VR P D R w (x.getD k .u) (cv.getD k undef)) ∧ ∀ u ∈ cv, u.oneCell' = true
  | [], [], x, cv, h, hl, hv => by
    simp only [fitCs, Option.some.injEq] at h
    subst h
    have : cv = [] := by simpa using hl
    subst this
    exact ⟨⟨rfl, fun j hj => by simp at hj⟩, rfl, fun k hk => by simp at hk, fun u hu => by simp at hu⟩
  | [], _ :: _, _, _, h, _, _ => by simp [fitCs] at h
  | _ :: _, [], _, _, h, _, _ => by simp [fitCs] at h
  | c :: all, v :: cs, x, cv, h, hl, hv => by
    match cv, hl with
    | u :: cv, hl =>
      simp only [fitCs] at h
      cases h1 : fitC c v with
      | none => rw [h1] at h; cases h
      | some a' =>
        cases h2 : fitCs all cs with
        | none => rw [h1, h2] at h; cases h
        | some y =>
          rw [h1, h2] at h
          simp only [Option.some.injEq] at h
          subst h
          obtain ⟨g1, g2, g3, _, _⟩ := fitC_sound h1 (by simpa using hv 0 (by simp))
          obtain ⟨i1, i2, i3, i4⟩ := fitCs_sound h2 (by simpa using hl) (fun k hk => by simpa using hv (k + 1) (by simpa using hk))
          refine ⟨⟨by simp [i1.1], ?_⟩, by simp [i2], ?_, ?_⟩
          · intro j hj
            cases j with
            | zero => simpa using g2
            | succ j => simpa using i1.2 j (by simpa using hj)
          · intro k hk
            cases k with
            | zero => simpa using g1
            | succ k => simpa using i3 k (by simpa using hk)
          · intro z hz
            rcases List.mem_cons.1 hz with rfl | hz
            · exact g3
            · exact i4 z hz

/-- A whole value, fitted into cells. -/
theorem fit_sound {all : List CT} {v : AV} {x : List AV} {v' : Value} (h : fitCs all (cellsOf v) = some x) (hv : VR P D R w v v') :
    WTs P all x ∧ v'.cells.size = x.length ∧ (∀ k, k < x.length → VR P D R w (x.getD k .u) (v'.cells.getD k undef)) ∧ ∀ u ∈ v'.cells.toList, u.oneCell' = true := by
  have single : cellsOf v = [v] → v'.cells = #[v'] → WTs P all x ∧ v'.cells.size = x.length ∧ (∀ k, k < x.length → VR P D R w (x.getD k .u) (v'.cells.getD k undef)) ∧ ∀ u ∈ v'.cells.toList, u.oneCell' = true := by
    intro h1 h2
    rw [h1] at h
    obtain ⟨i1, i2, i3, i4⟩ := fitCs_sound (cv := [v']) h rfl (fun k hk => by
      have : k = 0 := by simpa using hk
      subst this
      simpa using hv)
    rw [h2]
    refine ⟨i1, by simp [i2], fun k hk => ?_, by simpa using i4⟩
    have := i3 k hk
    simpa [Array.getD_eq_getD_getElem?, List.getD_eq_getElem?_getD] using this
  have failed : cellsOf v = [v] → (∀ c, fitC c v = none) → False := by
    intro h1 h2
    rw [h1] at h
    cases all with
    | nil => simp [fitCs] at h
    | cons c r => simp [fitCs, h2] at h
  cases hv with
  | @agg cs cv h1 h2 =>
    obtain ⟨i1, i2, i3, i4⟩ := fitCs_sound (cv := cv.toList) h (by simpa [cellsOf] using h1) (fun k hk => by
      have := h2 k hk
      simpa [cellsOf, Array.getD_eq_getD_getElem?, List.getD_eq_getElem?_getD] using this)
    refine ⟨i1, by simpa [Value.cells, i2, cellsOf] using h1, fun k hk => ?_, by simpa [Value.cells] using i4⟩
    have := i3 k hk
    simpa [Value.cells, Array.getD_eq_getD_getElem?, List.getD_eq_getElem?_getD] using this
  | u => exact (failed rfl (fun c => by cases c <;> rfl)).elim
  | tup => exact (failed rfl (fun c => by cases c <;> rfl)).elim
  | sl => exact (failed rfl (fun c => by cases c <;> rfl)).elim
  | ifc => exact (failed rfl (fun c => by cases c <;> rfl)).elim
  | _ => exact single rfl rfl

/-- Another world, whose old blocks are as they were. -/
theorem SR.world (h : SR P w0 X D R st a w) {w' : World} (hb : Below w.heap.size w w') : SR P w0 X D R st a w' := by
  have mono : ∀ {x : AV} {v : Value}, VR P D R w x v → VR P D R w' x v := fun hv => hv.mono (fun _ _ e => e) (fun b hlt hd => ⟨hd, hb.block b hlt⟩)
  refine ⟨fun t => mono (h.tmp t), h.nt, fun id e es he => ?_, h.own, h.inj, h.X, fun b hd => Nat.lt_of_lt_of_le (h.lt b hd) hb.size, h.old.trans hb, ?_⟩
  · obtain ⟨b, cells, ty, h1, h2, h3, h4, h5, h6, h7⟩ := h.mem id e es he
    refine ⟨b, cells, ty, h1, (hb.block b (h.lt b (h.own id b _ h1).1)).trans h2, h3, h4, h5, h6, fun i j hi hj => ?_⟩
    obtain ⟨v, g1, g2⟩ := h7 i j hi hj
    exact ⟨v, g1, mono g2⟩
  · obtain ⟨ds, d1, d2, d3⟩ := h.df
    exact ⟨ds, d1, d2, fun b hb' => ⟨(hb.block b (Array.getElem?_eq_some_iff.1 (d3 b hb').1).1).trans (d3 b hb').1, (d3 b hb').2⟩⟩

theorem below_alloc' (w : World) (o : Obj) : Below w.heap.size w (w.alloc o) := (Below.refl _ _).alloc (Nat.le_refl _) o

/-- New cells that nobody will write. -/
theorem VR_new_rp {all : List CT} {cs : List AV} {cv : Array Value} {t : TypeId} (hD : ∀ b, D b → b < w.heap.size) (hs : cv.size = cs.length) (h0 : 0 < cs.length) (hW : WTs P all cs)
    (hv : ∀ k, k < cs.length → VR P D R w (cs.getD k .u) (cv.getD k undef)) :
    VR P D R (w.alloc (.cells cv t)) (.rp all cs 0) (.pointer (some ⟨w.heap.size, 0, none⟩)) := by
  have hb := below_alloc' w (.cells cv t)
  have : VR P D R (w.alloc (.cells cv t)) (.rp all cs 0) (.pointer (some ⟨w.heap.size, 0 + 0, none⟩)) := by
    refine .rp (f := fun k => cv.getD k undef) (fun hd => absurd (hD _ hd) (by omega)) h0 hW (fun k hk => ?_) (fun k hk => (hv k hk).mono (fun _ _ e => e) (fun b hlt hd => ⟨hd, hb.block b hlt⟩))
    have hk' : k < cv.size := by omega
    simp [World.cell?_alloc_new, Array.getD_eq_getD_getElem?, hk']
  simpa using this

/-- A new row of the evaluator's. -/
theorem SR.fresh (h : SR P w0 X D R st a w) {site : Nat} (hf : R site = none) {t : TypeId} {es : List (List AV)} {cv : Array Value}
    (hle : (cts P t).length = P.cellsOf t) (hz : 0 < P.cellsOf t) (hs : es.length * P.cellsOf t ≤ cv.size) (hW : WT P (.sl t) (.rs t es))
    (hv : ∀ i j, i < es.length → j < P.cellsOf t → ∃ v, cv[i * P.cellsOf t + j]? = some v ∧ VR P D R w ((es.getD i []).getD j .u) v) :
    SR P w0 X (fun b => D b ∨ b = w.heap.size) (fun id => if id = site then some (w.heap.size, P.cellsOf t) else R id) (st.mem site (.row t es)) a (w.alloc (.cells cv t)) := by
  have hb := below_alloc' w (.cells cv t)
  have mono : ∀ {x : AV} {v : Value}, VR P D R w x v → VR P (fun b => D b ∨ b = w.heap.size) (fun id => if id = site then some (w.heap.size, P.cellsOf t) else R id) (w.alloc (.cells cv t)) x v :=
    fun hv => hv.mono (fun id x e => by
      by_cases hid : id = site
      · subst hid; rw [hf] at e; cases e
      · simpa [hid] using e) (fun b hlt hd => ⟨fun e => by
        rcases e with e | e
        · exact hd e
        · omega, hb.block b hlt⟩)
  refine ⟨fun x => mono (h.tmp x), h.nt, fun id e es' he => ?_, fun id b s e => ?_, fun id id' b s s' e e' => ?_, fun b hx => .inl (h.X b hx), fun b hd => ?_, h.old.trans hb, ?_⟩
  · simp only [St.mem, gm_cons] at he
    by_cases hid : id = site
    · subst hid
      simp only [if_true, Blk.row.injEq] at he
      obtain ⟨rfl, rfl⟩ := he
      refine ⟨w.heap.size, cv, t, by simp, World.alloc_heap_new w _, hle, hz, hs, hW, fun i j hi hj => ?_⟩
      obtain ⟨v, g1, g2⟩ := hv i j hi hj
      exact ⟨v, g1, mono g2⟩
    · simp only [hid, if_false] at he
      obtain ⟨b, cells, ty, h1, h2, h3, h4, h5, h6, h7⟩ := h.mem id e es' he
      refine ⟨b, cells, ty, by simpa [hid] using h1, (hb.block b (h.lt b (h.own id b _ h1).1)).trans h2, h3, h4, h5, h6, fun i j hi hj => ?_⟩
      obtain ⟨v, g1, g2⟩ := h7 i j hi hj
      exact ⟨v, g1, mono g2⟩
  · by_cases hid : id = site
    · simp only [hid, if_true, Option.some.injEq, Prod.mk.injEq] at e
      obtain ⟨rfl, rfl⟩ := e
      exact ⟨.inr rfl, .inl h.old.size⟩
    · simp only [hid, if_false] at e
      exact ⟨.inl (h.own id b s e).1, (h.own id b s e).2⟩
  · by_cases hid : id = site <;> by_cases hid' : id' = site
    · rw [hid, hid']
    · simp only [hid, if_true, Option.some.injEq, Prod.mk.injEq] at e
      simp only [hid', if_false] at e'
      obtain ⟨rfl, rfl⟩ := e
      exact absurd (h.lt _ (h.own id' _ s' e').1) (by omega)
    · simp only [hid', if_true, Option.some.injEq, Prod.mk.injEq] at e'
      simp only [hid, if_false] at e
      obtain ⟨rfl, rfl⟩ := e'
      exact absurd (h.lt _ (h.own id _ s e).1) (by omega)
    · simp only [hid, if_false] at e
      simp only [hid', if_false] at e'
      exact h.inj _ _ _ _ _ e e'
  · rcases hd with hd | hd
    · have := h.lt b hd; simp; omega
    · simp [hd]
  · obtain ⟨ds, d1, d2, d3⟩ := h.df
    refine ⟨ds, d1, d2, fun b hb' => ?_⟩
    have hlt := (Array.getElem?_eq_some_iff.1 (d3 b hb').1).1
    refine ⟨(hb.block b hlt).trans (d3 b hb').1, fun hd => ?_, (d3 b hb').2.2⟩
    rcases hd with hd | hd
    · exact (d3 b hb').2.1 hd
    · omega
end Go.Ev
