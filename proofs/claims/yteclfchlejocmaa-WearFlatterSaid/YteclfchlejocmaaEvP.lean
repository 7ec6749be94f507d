/-
  The law WearRates returns true for every climate and all numbers, and leaves its arguments as they were. No conditions.
-/
import Derived.Test.YteclfchlejocmaaEvL
set_option linter.unusedVariables false
set_option linter.unusedSimpArgs false
namespace Go.Ev
open Go Go.RowKit

variable {P : Program} {w0 : Base} {X D : Nat → Prop} {R : Nat → Option (Nat × Nat)} {st : St} {a : Act} {w : World}
variable {ro : Option Nat} {n : Nat} {Q : Exit → Act → World → Prop} {S : Spec} {RO : Nat → Bool} {L : LSpec}

/-- Code is as the evaluator says. -/
def Walks (P : Program) (S : Spec) (RO : Nat → Bool) (L : LSpec) (c : Code) (p : Pl) (lo : Nat) (nr : Bool) (ro : Option Nat) (n : Nat) : Prop :=
  ∀ {w0 : Base} {X : Nat → Prop} {ρ : Type} {st : St} {a : Act} {w : World} {D : Nat → Prop} {R : Nat → Option (Nat × Nat)} {K : Ex → St → Option ρ} {r : ρ} {Q : Exit → Act → World → Prop},
    SR P w0 X D R st a w → Fresh R st.nx → lo ≤ st.nx → evC P S RO L c p st K = some r →
    (∀ D' R' e st' a' w', SR P w0 X D' R' st' a' w' → Fresh R' st'.nx → (∀ id, id < lo → R' id = R id) → (nr = true → a'.defers = a.defers) → lo ≤ st'.nx → st'.nt = st.nt → K e st' = some r → Q e.exit a' w') → c.wpIn (FW ro) n P Q a w

def rowsOf (R : Nat → Option (Nat × Nat)) (b : Nat) : Prop := ∃ id s, R id = some (b, s)
/-- The blocks that must be known to be writable, and no others. -/
def least (X : Nat → Prop) (R : Nat → Option (Nat × Nat)) (b : Nat) : Prop := X b ∨ rowsOf R b
theorem SR.least_sub (h : SR P w0 X D R st a w) : ∀ b, least X R b → D b := fun b hb => by
  rcases hb with hb | ⟨id, s, hb⟩
  · exact h.X b hb
  · exact (h.own id b s hb).1
theorem SR.shrink (h : SR P w0 X D R st a w) : SR P w0 X (least X R) R st a w := by
  have hsub := h.least_sub
  have mono : ∀ {x : AV} {v : Value}, VR P D R w x v → VR P (least X R) R w x v := fun hv => hv.mono' (fun _ _ e => e) (fun b o u hd hc => ⟨fun hx => hd (hsub b hx), hc⟩)
  refine ⟨fun t => mono (h.tmp t), h.nt, fun id e es he => ?_, fun id b s e => ⟨.inr ⟨id, s, e⟩, (h.own id b s e).2⟩, h.inj, fun b hb => .inl hb, fun b hb => h.lt b (hsub b hb), h.old, ?_⟩
  · obtain ⟨b, cells, ty, g1, g2, g3, g4, g5, g6, g7⟩ := h.mem id e es he
    exact ⟨b, cells, ty, g1, g2, g3, g4, g5, g6, fun i j hi hj => by
      obtain ⟨v, q1, q2⟩ := g7 i j hi hj
      exact ⟨v, q1, mono q2⟩⟩
  · obtain ⟨ds, d1, d2, d3⟩ := h.df
    exact ⟨ds, d1, d2, fun b hb => ⟨(d3 b hb).1, fun hx => (d3 b hb).2.1 (hsub b hx), (d3 b hb).2.2⟩⟩

/-- Nothing turns but the loop's record and some rows. -/
structure Keep (l : Nat) (Z : Nat → Prop) (W W' : World) : Prop where
  os : W'.os = W.os
  tape : W'.tape = W.tape
  output : W'.output = W.output
  size : W.heap.size ≤ W'.heap.size
  block : ∀ k, k < W.heap.size → k ≠ l → ¬ Z k → W'.heap[k]? = W.heap[k]?
theorem Keep.trans {l : Nat} {Z Z' : Nat → Prop} {A B C : World} (h : Keep l Z A B) (k : Keep l Z' B C) (hz : ∀ b, b < A.heap.size → Z' b → Z b) : Keep l Z A C :=
  ⟨k.os.trans h.os, k.tape.trans h.tape, k.output.trans h.output, Nat.le_trans h.size k.size, fun b hb hl hZ => (k.block b (Nat.lt_of_lt_of_le hb h.size) hl (fun hz' => hZ (hz b hb hz'))).trans (h.block b hb hl hZ)⟩
theorem Keep.put {l : Nat} {Z : Nat → Prop} (W : World) (o : Obj) : Keep l Z W (W.putObj l o) :=
  ⟨rfl, rfl, rfl, by simp, fun k hk hl _ => World.putObj_heap_other hl⟩
theorem BelowY.keep {l : Nat} {b : Base} {W' : World} (h : BelowY b W') : Keep l b.Y b.w W' := ⟨h.os, h.tape, h.output, h.size, fun k hk _ hY => h.block k hk hY⟩

theorem startR_sound : ∀ (ps : List Nat) (x : List AV) {st : St} {tmps : Array Value}, (∀ t, VR P D R w (gt st.t t) (tmps.getD t undef)) → (∀ q, q ∈ ps → q < tmps.size) → plainL x = true →
    (∀ t, VR P D R w (gt (startR ps x st).t t) (((ps.zip (toVL x)).foldl (fun t (p, v) => t.setIfInBounds p v) tmps).getD t undef)) ∧
    ((ps.zip (toVL x)).foldl (fun t (p, v) => t.setIfInBounds p v) tmps).size = tmps.size ∧ (startR ps x st).m = st.m ∧ (startR ps x st).nx = st.nx ∧ (startR ps x st).nt = st.nt
  | [], x, st, tmps, h, _, _ => by cases x <;> exact ⟨by simpa [startR] using h, by simp, rfl, rfl, rfl⟩
  | p :: ps, [], st, tmps, h, _, _ => ⟨by simpa [startR, toVL] using h, by simp [toVL], rfl, rfl, rfl⟩
  | p :: ps, v :: x, st, tmps, h, hq, hp => by
    simp only [plainL, Bool.and_eq_true] at hp
    have hpl : p < tmps.size := hq p (by simp)
    have := startR_sound ps x (st := st.put (some p) v) (tmps := tmps.setIfInBounds p (toV v)) (fun t => by
      simp only [St.put, gt_cons]
      by_cases e : t = p
      · subst e
        simp only [if_true]
        have := (VR_toV_all (P := P) (D := D) (R := R) (w := w)).1 v hp.1
        simpa [Array.getD_eq_getD_getElem?, hpl] using this
      · simp only [e, if_false]
        have := h t
        simpa [Array.getD_eq_getD_getElem?, Array.getElem?_setIfInBounds, Ne.symm e] using this) (fun q hq' => by simpa using hq q (by simp [hq'])) hp.2
    simpa [startR, toVL, St.put] using this

theorem cells_ne {W : World} {l b o : Nat} {u : Value} {r : Loop} (hl : W.heap[l]? = some (.loop r)) (hc : W.cell? ⟨b, o, none⟩ = some u) : b ≠ l := fun e => by
  subst e
  simp [World.cell?, hl] at hc
theorem cell_lt {W : World} {b o : Nat} {u : Value} (hc : W.cell? ⟨b, o, none⟩ = some u) : b < W.heap.size := by
  obtain ⟨ob, h, _⟩ := cells_of_cell hc
  exact (Array.getElem?_eq_some_iff.1 h).1
theorem VR.keep {l : Nat} {Z : Nat → Prop} {W W' : World} {r : Loop} {x : AV} {v : Value} (h : VR P D R W x v) (hk : Keep l Z W W') (hl : W.heap[l]? = some (.loop r)) (hZ : ∀ b, Z b → D b) : VR P D R W' x v :=
  h.mono' (fun _ _ e => e) fun b o u hd hc => ⟨hd, (World.cell?_of_block (hk.block b (cell_lt hc) (cells_ne hl hc) (fun hz => hd (hZ b hz)))).trans hc⟩

/-- What a jump is. -/
def Ex.jump : Ex → Option Code
  | .nrm => none
  | .ext id => some (.exit id)
  | .ret => some .ret
end Go.Ev
