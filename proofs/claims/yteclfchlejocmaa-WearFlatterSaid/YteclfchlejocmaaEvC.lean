/-
  The law WearRates returns true for every climate and all numbers, and leaves its arguments as they were. No conditions.
-/
import Derived.Test.YteclfchlejocmaaEvB
set_option linter.unusedVariables false
set_option linter.unusedSimpArgs false
namespace Go.Ev
open Go Go.RowKit

variable {P : Program}

/-- The marks that ranges over functions have left. -/
def mark1 (b : Nat) : Deferred := { target := .collected b, args := #[] }
/-- The world in which a call or a round began, and the rows of its own that lay there. -/
structure Base where
  w : World
  Y : Nat → Prop
  B : Nat
  le : B ≤ w.heap.size
/-- What lay there lies as it lay, but for these rows. -/
structure BelowY (b : Base) (w : World) : Prop where
  os : w.os = b.w.os
  tape : w.tape = b.w.tape
  output : w.output = b.w.output
  size : b.w.heap.size ≤ w.heap.size
  block : ∀ k, k < b.w.heap.size → ¬ b.Y k → w.heap[k]? = b.w.heap[k]?
theorem BelowY.trans {b : Base} {w w' : World} (h : BelowY b w) (k : Below w.heap.size w w') : BelowY b w' :=
  ⟨k.os.trans h.os, k.tape.trans h.tape, k.output.trans h.output, Nat.le_trans h.size k.size, fun i hi hY => (k.block i (Nat.lt_of_lt_of_le hi h.size)).trans (h.block i hi hY)⟩
/-- The evaluator's state and the machine's: 'D': the blocks that may be written, of whoever; 'R': where the evaluator's rows lie; 'w0': the world in which the call began; 'X': what its callers own. -/
structure SR (P : Program) (w0 : Base) (X : Nat → Prop) (D : Nat → Prop) (R : Nat → Option (Nat × Nat)) (st : St) (a : Act) (w : World) : Prop where
  tmp : ∀ t, VR P D R w (gt st.t t) (a.tmps.getD t undef)
  nt : a.tmps.size = st.nt
  mem : ∀ id e es, gm st.m id = .row e es → ∃ b cells ty, R id = some (b, P.cellsOf e) ∧ w.heap[b]? = some (.cells cells ty (0, 0)) ∧
    (cts P e).length = P.cellsOf e ∧ 0 < P.cellsOf e ∧ es.length * P.cellsOf e ≤ cells.size ∧ WT P (.sl e) (.rs e es) ∧
    ∀ i j, i < es.length → j < P.cellsOf e → ∃ v, cells[i * P.cellsOf e + j]? = some v ∧ VR P D R w ((es.getD i []).getD j .u) v
  own : ∀ id b s, R id = some (b, s) → D b ∧ (w0.w.heap.size ≤ b ∨ w0.Y b)
  inj : ∀ id id' b s s', R id = some (b, s) → R id' = some (b, s') → id = id'
  X : ∀ b, X b → D b
  lt : ∀ b, D b → b < w.heap.size
  old : BelowY w0 w
  df : ∃ ds : List Nat, a.defers = ds.map mark1 ∧ ds.Nodup ∧ ∀ b, b ∈ ds → w.heap[b]? = some (.deferred (some [])) ∧ ¬ D b ∧ w0.B ≤ b

variable {w0 : Base} {X D : Nat → Prop} {R : Nat → Option (Nat × Nat)} {st : St} {a : Act} {w : World}

theorem VR_undef : VR P D R w (.tup []) undef := .tup (cv := #[]) rfl (fun k hk => by simp at hk)

theorem gt_cons (j : Nat) (v : AV) (r : List (Nat × AV)) (i : Nat) : gt ((j, v) :: r) i = if i = j then v else gt r i := by
  simp only [gt]
  by_cases h : i = j
  · simp [h, Nat.beq_refl]
  · have : Nat.beq i j = false := by
      cases hb : Nat.beq i j with
      | true => exact absurd (Nat.eq_of_beq_eq_true hb) h
      | false => rfl
    simp [h, this]
theorem gm_cons (j : Nat) (v : Blk) (r : List (Nat × Blk)) (i : Nat) : gm ((j, v) :: r) i = if i = j then v else gm r i := by
  simp only [gm]
  by_cases h : i = j
  · simp [h, Nat.beq_refl]
  · have : Nat.beq i j = false := by
      cases hb : Nat.beq i j with
      | true => exact absurd (Nat.eq_of_beq_eq_true hb) h
      | false => rfl
    simp [h, this]

/-- A temporary is written. -/
theorem SR.put (h : SR P w0 X D R st a w) {d : Option Nat} {v : AV} {v' : Value} (hd : ∀ x, d = some x → x < st.nt) (hv : VR P D R w v v') :
    SR P w0 X D R (st.put d v) (a.put d v') w := by
  cases d with
  | none => exact h
  | some d =>
    have hlt := hd d rfl
    refine { h with tmp := ?_, nt := ?_, mem := ?_, df := h.df }
    · intro t
      simp only [St.put, Act.put, gt_cons]
      have hs : d < a.tmps.size := by rw [h.nt]; exact hlt
      by_cases e : t = d
      · subst e
        simp [Array.getD_eq_getD_getElem?, hs, hv]
      · have := h.tmp t
        simp only [e, if_false]
        simpa [Array.getD_eq_getD_getElem?, Array.getElem?_setIfInBounds, Ne.symm e] using this
    · simpa [St.put, Act.put] using h.nt
    · exact fun id e es he => h.mem id e es (by simpa [St.put] using he)

/-- What a temporary is known to be besides. -/
theorem SR.know (h : SR P w0 X D R st a w) {d : Nat} {v : AV} (hv : VR P D R w v (a.tmps.getD d Go.undef)) : SR P w0 X D R (st.put (some d) v) a w := by
  refine { h with tmp := ?_ }
  intro t
  simp only [St.put, gt_cons]
  by_cases e : t = d
  · subst e; simpa using hv
  · simpa [e] using h.tmp t

theorem VR_ofC (v : Value) : VR P D R w (ofC v) v := by
  unfold ofC
  split <;> first | exact .b | exact .np | exact .nl | exact .nf | exact .ni | exact .u | skip
  · rename_i k n
    cases h : decide (k.min ≤ n) && decide (n ≤ k.max) with
    | true =>
      simp only [Bool.and_eq_true, decide_eq_true_eq] at h
      exact .i h.1 h.2
    | false => exact .u
  · rename_i s
    cases h : Nat.ble s.size 9223372036854775807 with
    | true => exact .s (by simpa [Nat.ble_eq] using h)
    | false => exact .u

theorem SR.val (h : SR P w0 X D R st a w) (x : Operand) : VR P D R w (val st x) (a.eval x) := by
  cases x with
  | tmp t => exact h.tmp t
  | const v => exact VR_ofC v
  | global g => exact .u
  | func f => exact .fn rfl (fun k hk => by simp at hk)

theorem VR_fitT (t : TypeId) {v : AV} {v' : Value} (h : VR P D R w v v') : VR P D R w (fitT P t v) v' := by
  unfold fitT
  split
  · split
    · cases h; exact .rs0
    · exact h
  · exact h

/-- A load. -/
theorem look_sound {ρ : Type} (h : SR P w0 X D R st a w) {t : TypeId} {p : AV} {v : Value} (hp : VR P D R w p v) {K : AV → Option ρ} {r : ρ} (he : look P st t p K = some r) :
    ∃ x u, (Instr.loadAt t v).run P w = .ok u w ∧ VR P D R w x u ∧ K x = some r := by
  unfold look at he
  cases hp with
  | @rp all cs j b o f h1 h0 h2 h3 h4 =>
    simp only at he
    cases hc : okT P t && ctsAt all j (cts P t) with
    | false => rw [hc] at he; cases he
    | true =>
      rw [hc] at he
      simp only [Bool.and_eq_true] at hc
      obtain ⟨ho, hc⟩ := hc
      obtain ⟨hl, _, _⟩ := okT_spec ho
      have hin : ∀ k, k < P.cellsOf t → j + k < cs.length := fun k hk => (h2.at_ hc k (by omega)).1
      refine ⟨_, _, ?_, VR_mkV ho h2 hc (f := fun k => f (j + k)) (fun k hk => h4 _ (hin k hk)), he⟩
      simp only [Instr.loadAt, Instr.sureAddr, Sem.run_bind, Sem.run_pure, Result.andThen_ok]
      exact run_loadVar' ho (f := fun k => f (j + k)) (fun k hk => by rw [Nat.add_assoc]; exact h3 _ (hin k hk))
  | @p id i j b sz hR =>
    simp only at he
    cases hm : gm st.m id with
    | dead => rw [hm] at he; cases he
    | row e es =>
      rw [hm] at he
      simp only at he
      cases hc : okT P t && (ctsAt (cts P e) j (cts P t) && Nat.blt i es.length) with
      | false => rw [hc] at he; cases he
      | true =>
        rw [hc] at he
        simp only [Bool.and_eq_true] at hc
        obtain ⟨ho, hc, hi⟩ := hc
        have hi : i < es.length := by simpa [Nat.blt_eq] using hi
        obtain ⟨hl, _, _⟩ := okT_spec ho
        obtain ⟨b', cells, ty, hR', hh, hle, hpos, hsz, hW, hv⟩ := h.mem id e es hm
        rw [hR] at hR'
        injection hR' with hR'
        injection hR' with hb hs
        subst hb; subst hs
        have hx : es.getD i [] ∈ es := by simp [List.getD_eq_getElem?_getD, List.getElem?_eq_getElem hi]
        have hWs : WTs P (cts P e) (es.getD i []) := by
          cases hW with
          | sl h1 h2 h3 => exact ⟨h2 _ hx, h3 _ hx⟩
        have hin : ∀ k, k < P.cellsOf t → j + k < P.cellsOf e := fun k hk => by
          have := (hWs.at_ hc k (by omega)).1
          rw [hWs.1, hle] at this
          exact this
        refine ⟨_, _, ?_, VR_mkV ho hWs hc (f := fun k => (cells[i * P.cellsOf e + (j + k)]?).getD Go.undef) (fun k hk => ?_), he⟩
        · simp only [Instr.loadAt, Instr.sureAddr, Sem.run_bind, Sem.run_pure, Result.andThen_ok]
          refine run_loadVar' ho (f := fun k => (cells[i * P.cellsOf e + (j + k)]?).getD Go.undef) (fun k hk => ?_)
          obtain ⟨v, hv1, _⟩ := hv i (j + k) hi (hin k hk)
          simp [World.cell?, hh, Nat.add_assoc, hv1]
        · obtain ⟨v, hv1, hv2⟩ := hv i (j + k) hi (hin k hk)
          simp only [hv1, Option.getD_some]
          exact hv2
  | _ => simp at he
end Go.Ev
