/-
  The law RidgeFibonacci of the roofer's ridges answers true whatever byte it is handed; no conditions.
-/
import Derived.Test.YtgifjphinkbcaaaEva
import Derived.Laws.AppendOwn
import Derived.WideKeyRuns
import Derived.Carry
set_option linter.unusedVariables false
set_option linter.unusedVariables false
set_option linter.unusedSimpArgs false
namespace Go.Ev
open Go Go.RowKit

variable {P : Program} {w0 : Base} {X D : Nat → Nat → Prop} {R : Nat → Option (Nat × Nat × Nat)} {st : St} {a : Act} {w : World}
variable {ro : Option Nat} {n : Nat} {o : Oper} {next : Act → World → Prop} {Q : Exit → Act → World → Prop} {ρ : Type} {K : Eff → Option ρ} {r : ρ} {site : Nat} {S : Spec} {RO : Nat → Bool}

/-- A row is forgotten. -/
theorem SR.kill (h : SR P w0 X D R st a w) (id : Nat) : SR P w0 X D R (st.mem id .dead) a w := by
  refine ⟨h.tmp, h.nt, fun id' => ?_, h.own, fun id' b s et o e hs hm => ?_, fun id' b s o e ho => ?_, fun i1 i2 b s s' e e' hs hs' ha ha' => ?_, fun id' b s e ho => ?_, h.X, h.lt, h.old, h.df⟩
  · simp only [St.mem, gm_cons]
    split
    · trivial
    · exact h.mem id'
  · simp only [St.mem, gm_cons] at hm
    split at hm
    · cases hm
    · exact h.fx id' b s et o e hs hm
  · simp only [St.mem, gm_cons] at ho
    split at ho
    · exact ho.elim
    · exact h.dom id' b s o e ho
  · simp only [St.mem, gm_cons] at ha ha'
    split at ha
    · cases ha
    · split at ha'
      · cases ha'
      · exact h.inj _ _ _ _ _ e e' hs hs' ha ha'
  · simp only [St.mem, gm_cons] at ho
    split at ho
    · exact (ho 0).elim
    · exact h.nz id' b s e ho

theorem div_idx {sz i k : Nat} (hk : k < sz) : (i * sz + k) / sz = i ∧ (i * sz + k) % sz = k := by
  constructor
  · rw [Nat.add_comm, Nat.add_mul_div_right _ _ (by omega), Nat.div_eq_of_lt hk]; omega
  · rw [Nat.add_comm, Nat.add_mul_mod_self_right, Nat.mod_eq_of_lt hk]
theorem idx_lt {sz i j n : Nat} (hi : i < n) (hj : j < sz) : i * sz + j < n * sz := by
  have := Nat.mul_le_mul_right sz (show i + 1 ≤ n by omega)
  rw [Nat.add_mul, Nat.one_mul] at this
  omega
/-- The cells of a slice, in a list. -/
theorem cells_list {e : TypeId} {es : List (List AV)} {b o : Nat} {f : Nat → Nat → Value} (gz : 0 < P.cellsOf e) (g6 : ∀ i j, i < es.length → j < P.cellsOf e → w.cell? ⟨b, o + (i * P.cellsOf e + j), none⟩ = some (f i j)) :
    ∃ news : List Value, news.length = es.length * P.cellsOf e ∧ (∀ k u, news[k]? = some u → w.cell? ((⟨b, o, none⟩ : Addr).add k) = some u) ∧ ∀ i j, i < es.length → j < P.cellsOf e → news[i * P.cellsOf e + j]? = some (f i j) := by
  refine ⟨(List.range (es.length * P.cellsOf e)).map fun k => f (k / P.cellsOf e) (k % P.cellsOf e), by simp, fun k u hk => ?_, fun i j hi hj => ?_⟩
  · simp only [List.getElem?_map] at hk
    by_cases hlt : k < es.length * P.cellsOf e
    · rw [List.getElem?_range hlt] at hk
      simp only [Option.map_some, Option.some.injEq] at hk
      have hm := Nat.mod_lt k gz
      have hdv : k / P.cellsOf e < es.length := (Nat.div_lt_iff_lt_mul gz).2 hlt
      have := g6 _ _ hdv hm
      rw [show k / P.cellsOf e * P.cellsOf e + k % P.cellsOf e = k by rw [Nat.mul_comm]; exact Nat.div_add_mod k _] at this
      rw [add_plain', this, hk]
    · rw [List.getElem?_eq_none (by simp; omega)] at hk
      cases hk
  · have hlt := idx_lt hi hj
    obtain ⟨d1, d2⟩ := div_idx (i := i) hj
    simp [hlt, d1, d2]
theorem WT_app {e : TypeId} {es ys : List (List AV)} (h1 : WT P (.sl e) (.rs e es)) (h2 : WT P (.sl e) (.rs e ys)) (hl : es.length + ys.length ≤ 9223372036854775807) : WT P (.sl e) (.rs e (es ++ ys)) := by
  obtain ⟨a1, a2, a3⟩ := WT_rs h1
  obtain ⟨b1, b2, b3⟩ := WT_rs h2
  exact .sl (by simpa using hl) (fun x hx => by rcases List.mem_append.1 hx with hx | hx; exact a2 x hx; exact b2 x hx) (fun x hx => by rcases List.mem_append.1 hx with hx | hx; exact a3 x hx; exact b3 x hx)
theorem getD_app {es ys : List (List AV)} (i : Nat) : (es ++ ys).getD i [] = if i < es.length then es.getD i [] else ys.getD (i - es.length) [] := by
  by_cases h : i < es.length
  · simp [List.getD_eq_getElem?_getD, List.getElem?_append_left h, h]
  · simp [List.getD_eq_getElem?_getD, List.getElem?_append_right (show es.length ≤ i by omega), h]

/-- A new row for a slice that may grow. -/
theorem SR.newG (h : SR P w0 X D R st a w) (hf : R site = none) {e : TypeId} {es : List (List AV)} {cv : Array Value} {c : Nat} {w1 : World} (hw1 : Below w.heap.size w w1) (hsz1 : w1.heap.size = w.heap.size) (hne : es ≠ [])
    (hle : (cts P e).length = P.cellsOf e) (hz : 0 < P.cellsOf e) (hlc : es.length ≤ c) (hcm : c ≤ 9223372036854775807) (hs : cv.size = c * P.cellsOf e) (hW : WT P (.sl e) (.rs e es)) {f : Nat → Nat → Value}
    (hc : ∀ i j, i < es.length → j < P.cellsOf e → cv[i * P.cellsOf e + j]? = some (f i j)) (hv : ∀ i j, i < es.length → j < P.cellsOf e → VR P D R w ((es.getD i []).getD j .u) (f i j)) :
    ∃ D' R', SR P w0 X D' R' (st.mem site (.fr e)) a (w1.alloc (.cells cv e)) ∧ VR P D' R' (w1.alloc (.cells cv e)) (.gv site e es) (.slice (some ⟨w.heap.size, 0, none⟩) es.length c) ∧ Fr R R' site := by
  have hpos : 0 < es.length := List.length_pos_iff.2 hne
  have hb : Below w.heap.size w (w1.alloc (.cells cv e)) := hw1.alloc (by omega) _
  have hown : ∀ o, ¬ owns P (.fr e) (c, es.length) o ∨ w.heap.size ≤ w.heap.size := fun _ => .inr (Nat.le_refl _)
  refine ⟨_, _, h.newrow (site := site) (B := w.heap.size) (s := (c, es.length)) (blk := .fr e) hf hb (.inl ⟨Nat.le_refl _, by simp [hsz1], by simp; omega⟩) ⟨hz, hle, w.heap.size, c, es.length, by simp [Rn], .inr ⟨by omega, hlc, hcm, cv, ?_, hs⟩⟩, ?_, .new⟩
  · have := World.alloc_heap_new w1 (.cells cv e)
    rwa [hsz1] at this
  · refine .gv (f := f) hne hz hlc hle (fun i j hi hj => ?_) hW (fun i j hi hj => ?_) (fun i j hi hj => (hv i j hi hj).grow h.lt hf hb (.inl (Nat.le_refl _))) (by simp [Rn])
    · rintro (hd | ⟨_, _, hd⟩)
      · exact absurd (h.lt _ _ hd) (by omega)
      · have := idx_lt hi hj
        simp only at hd
        omega
    · have := World.alloc_heap_new w1 (.cells cv e)
      rw [hsz1] at this
      simp [World.cell?, this, hc i j hi hj]
/-- The same, where there is nothing yet. -/
theorem SR.newG0 (h : SR P w0 X D R st a w) (hf : R site = none) {e : TypeId} (ad : Option Addr) (hle : (cts P e).length = P.cellsOf e) (hz : 0 < P.cellsOf e) :
    ∃ D' R', SR P w0 X D' R' (st.mem site (.fr e)) a w ∧ VR P D' R' w (.gv site e []) (.slice ad 0 0) ∧ Fr R R' site := by
  refine ⟨_, _, h.newrow (site := site) (B := 0) (s := (0, 0)) (blk := .fr e) hf (Below.refl _ _) (.inr ⟨rfl, fun o ho => ho.1 rfl⟩) ⟨hz, hle, 0, 0, 0, by simp [Rn], .inl ⟨rfl, rfl⟩⟩, .gv0 (b := 0) (by simp [Rn]), .new⟩

/-- What must be known of an element's type. -/
theorem elem_info {e : TypeId} {i : TypeInfo} (hin : P.info? e = some i) (hz0 : i.zero.isSome = true) (hzz : Nat.beq ((i.zero.map fun z => z.cells.size).getD 0) i.size = true) :
    ∃ z, i.zero = some z ∧ i.size = P.cellsOf e ∧ z.cells.size = P.cellsOf e := by
  obtain ⟨z, hz⟩ := Option.isSome_iff_exists.1 hz0
  have hsz : i.size = P.cellsOf e := by simp [Program.cellsOf, hin]
  refine ⟨z, hz, hsz, ?_⟩
  rw [hz] at hzz
  have := Nat.eq_of_beq_eq_true hzz
  simpa [hsz] using this
theorem below_drew (w : World) : Below w.heap.size w w.drew := ⟨rfl, rfl, rfl, Nat.le_refl _, fun _ _ => rfl⟩
/-- append of nothing. -/
theorem run_append_nothing {t ty e : TypeId} {i : TypeInfo} (hu : P.underlying t = some (.slice e)) (hin : P.info? e = some i) {xa ya : Option Addr} {l c yc : Nat} (hc : l ≤ c) :
    (Builtin.append_ #[t, t] ty #[.slice xa l c, .slice ya 0 yc]).run P w = .ok (.slice xa l c) w := by
  cases xa <;> cases ya <;> simp [Builtin.append_, run_underlying' hu, sizeOf, typeInfo, hin, Builtin.lenOf, Builtin.firstCells, loadCells, loadCellsFrom, storeCells, hc]

/-- A slice that may grow gets a new number, and more elements where it lies. -/
theorem SR.extend (h : SR P w0 X D R st a w) (hf : R site = none) {id b c n n' : Nat} {e : TypeId} (hm : gm st.m id = .fr e) (hR : R id = some (b, c, n)) (hc0 : c ≠ 0) (hn : n ≤ n') (hnc : n' ≤ c) (hcm : c ≤ 9223372036854775807)
    (hz : 0 < P.cellsOf e) (hle : (cts P e).length = P.cellsOf e) {w' : World} (hother : ∀ k, k ≠ b → w'.heap[k]? = w.heap[k]?) (hsz : w'.heap.size = w.heap.size) (hos : w'.os = w.os) (htape : w'.tape = w.tape) (hout : w'.output = w.output)
    {cells' : Array Value} (hcells : w'.heap[b]? = some (.cells cells' e (0, 0))) (hcs : cells'.size = c * P.cellsOf e) (hkeep : ∀ o, o < n * P.cellsOf e → w'.cell? ⟨b, o, none⟩ = w.cell? ⟨b, o, none⟩) :
    ∃ D', (∀ b' o, D' b' o ↔ D b' o ∧ (b' = b → n' * P.cellsOf e ≤ o)) ∧ (∀ {x : AV} {v : Value}, VR P D R w x v → VR P D' (Rn R site b (c, n')) w' x v) ∧
      SR P w0 X D' (Rn R site b (c, n')) ((st.mem id .dead).mem site (.fr e)) a w' := by
  have hs0 : (c, n) ≠ (0, 0) := by simp; omega
  have hs1 : (c, n') ≠ (0, 0) := by simp; omega
  have hdom : ∀ o, n * P.cellsOf e ≤ o → D b o := fun o ho => h.dom id b _ o hR (by rw [hm]; exact ⟨hc0, ho⟩)
  have hmul := Nat.mul_le_mul_right (P.cellsOf e) hn
  obtain ⟨ow1, ow2⟩ := h.own id b _ hR hs0
  have ow3 : ∀ o, ¬ X b o ∧ (w0.w.heap.size ≤ b ∨ (w0.Y b ∧ ∀ id, w0.K id)) := fun o => h.fx id b _ e o hR hs0 hm
  have hal : alive (gm st.m id) = true := by rw [hm]; rfl
  obtain ⟨D', hD'⟩ : ∃ D' : Nat → Nat → Prop, ∀ b' o, D' b' o ↔ D b' o ∧ (b' = b → n' * P.cellsOf e ≤ o) := ⟨fun b' o => D b' o ∧ (b' = b → n' * P.cellsOf e ≤ o), fun _ _ => Iff.rfl⟩
  have mono : ∀ {x : AV} {v : Value}, VR P D R w x v → VR P D' (Rn R site b (c, n')) w' x v := fun hv => hv.mono' (fun i x e => by
      by_cases hi : i = site
      · subst hi; rw [hf] at e; cases e
      · simpa [Rn, hi] using e) fun b' o u hd hcl => by
    refine ⟨fun hx => hd ((hD' _ _).1 hx).1, ?_⟩
    by_cases hb : b' = b
    · subst hb
      have ho : o < n * P.cellsOf e := by
        rcases Nat.lt_or_ge o (n * P.cellsOf e) with g | g
        · exact g
        · exact absurd (hdom o g) hd
      rw [hkeep o ho]; exact hcl
    · exact (World.cell?_of_block (hother b' hb)).trans hcl
  refine ⟨D', hD', mono, fun t => mono (h.tmp t), h.nt, fun i => ?_, fun i b' s e hs => ?_, fun i b' s et o e hs hm' => ?_, fun i b' s o e ho => ?_, fun i i' b' s s' e1 e2 hs hs' ha ha' => ?_, fun i b' s e ho => ?_, fun b' o hx => ?_, fun b' o hd => by rw [hsz]; exact h.lt b' o ((hD' _ _).1 hd).1, ?_, ?_⟩
  · simp only [St.mem, gm_cons]
    by_cases hi : i = site
    · subst hi
      simp only [if_true]
      exact ⟨hz, hle, b, c, n', by simp [Rn], .inr ⟨by omega, hnc, hcm, cells', hcells, hcs⟩⟩
    · simp only [hi, if_false]
      by_cases hi2 : i = id
      · simp only [hi2, if_true]; trivial
      · simp only [hi2, if_false]
        cases ha : alive (gm st.m i) with
        | false =>
          have : gm st.m i = .dead := by
            revert ha
            cases gm st.m i <;> simp [alive]
          rw [this]; trivial
        | true => exact (h.mem i).mono (by simp [Rn, hi]) (fun b1 s1 h1 hs1 => hother b1 fun hb => hi2 (h.inj _ _ _ _ _ h1 (hb ▸ hR) hs1 hs0 ha hal)) fun _ _ => mono
  · by_cases hi : i = site
    · simp only [Rn, hi, if_true, Option.some.injEq, Prod.mk.injEq] at e
      obtain ⟨rfl, rfl⟩ := e
      exact ⟨(ow3 0).2.imp_right fun h => ⟨h.1, h.2 _⟩, by rw [hsz]; exact ow2⟩
    · simp only [Rn, hi, if_false] at e
      have := h.own i b' s e hs
      exact ⟨this.1, by rw [hsz]; exact this.2⟩
  · by_cases hi : i = site
    · simp only [Rn, hi, if_true, Option.some.injEq, Prod.mk.injEq] at e
      obtain ⟨rfl, rfl⟩ := e
      exact ow3 o
    · simp only [Rn, hi, if_false] at e
      simp only [St.mem, gm_cons, hi, if_false] at hm'
      split at hm'
      · cases hm'
      · exact h.fx i b' s et o e hs hm'
  · simp only [St.mem, gm_cons] at ho
    by_cases hi : i = site
    · simp only [Rn, hi, if_true, Option.some.injEq, Prod.mk.injEq] at e ho
      obtain ⟨rfl, rfl⟩ := e
      exact (hD' _ _).2 ⟨hdom o (Nat.le_trans hmul ho.2), fun _ => ho.2⟩
    · simp only [Rn, hi, if_false] at e ho
      by_cases hi2 : i = id
      · simp only [hi2, if_true] at ho; exact ho.elim
      · simp only [hi2, if_false] at ho
        refine (hD' _ _).2 ⟨h.dom i b' s o e ho, fun hb => ?_⟩
        subst hb
        have hsn : s ≠ (0, 0) := fun hs => by
          subst hs
          cases hk : gm st.m i with
          | fr e' => rw [hk] at ho; exact ho.1 rfl
          | dead => rw [hk] at ho; exact ho
          | _ => exact h.nz i b' (0, 0) e (by rw [hk]; intro _; trivial) rfl
        have ha : alive (gm st.m i) = true := by
          cases hk : gm st.m i <;> first | rfl | (rw [hk] at ho; exact ho.elim)
        exact absurd (h.inj _ _ _ _ _ e hR hsn hs0 ha hal) hi2
  · have key : ∀ {j s}, j ≠ site → R j = some (b, s) → s ≠ (0, 0) → alive (gm ((st.mem id .dead).mem site (.fr e)).m j) = true → False := fun {j s} hj e3 hs ha => by
      simp only [St.mem, gm_cons, hj, if_false] at ha
      by_cases hj2 : j = id
      · simp [hj2, alive] at ha
      · simp only [hj2, if_false] at ha
        exact hj2 (h.inj _ _ _ _ _ e3 hR hs hs0 ha hal)
    by_cases hi : i = site <;> by_cases hi' : i' = site
    · rw [hi, hi']
    · simp only [Rn, hi, if_true, Option.some.injEq, Prod.mk.injEq] at e1
      simp only [Rn, hi', if_false] at e2
      obtain ⟨rfl, rfl⟩ := e1
      exact (key hi' e2 hs' ha').elim
    · simp only [Rn, hi', if_true, Option.some.injEq, Prod.mk.injEq] at e2
      simp only [Rn, hi, if_false] at e1
      obtain ⟨rfl, rfl⟩ := e2
      exact (key hi e1 hs ha).elim
    · simp only [Rn, hi, if_false] at e1
      simp only [Rn, hi', if_false] at e2
      simp only [St.mem, gm_cons, hi, if_false] at ha
      simp only [St.mem, gm_cons, hi', if_false] at ha'
      have a1 : alive (gm st.m i) = true := by
        by_cases hj2 : i = id
        · simp [hj2, alive] at ha
        · simpa only [hj2, if_false] using ha
      have a2 : alive (gm st.m i') = true := by
        by_cases hj2 : i' = id
        · simp [hj2, alive] at ha'
        · simpa only [hj2, if_false] using ha'
      exact h.inj _ _ _ _ _ e1 e2 hs hs' a1 a2
  · simp only [St.mem, gm_cons] at ho
    by_cases hi : i = site
    · simp only [Rn, hi, if_true, Option.some.injEq, Prod.mk.injEq] at e
      obtain ⟨rfl, rfl⟩ := e
      exact hs1
    · simp only [Rn, hi, if_false] at e ho
      by_cases hi2 : i = id
      · simp only [hi2, if_true] at ho; exact (ho 0).elim
      · simp only [hi2, if_false] at ho
        exact h.nz i b' s e ho
  · exact (hD' _ _).2 ⟨h.X b' o hx, fun hb => absurd (hb ▸ hx) (ow3 o).1⟩
  · refine ⟨by rw [hos]; exact h.old.os, by rw [htape]; exact h.old.tape, by rw [hout]; exact h.old.output, by rw [hsz]; exact h.old.size, fun k hk hY => (hother k (fun e => ?_)).trans (h.old.block k hk hY)⟩
    rcases (ow3 0).2 with hge | hge
    · omega
    · exact hY (e ▸ hge.1)
  · obtain ⟨ds, d1, d2, d3⟩ := h.df
    exact ⟨ds, d1, d2, fun k hk => ⟨(hother k (fun e => (d3 k hk).2.1 _ (e ▸ hdom _ (Nat.le_refl _)))).trans (d3 k hk).1, fun o hx => (d3 k hk).2.1 o ((hD' _ _).1 hx).1, (d3 k hk).2.2⟩⟩

/-- append behind nothing. -/
theorem grow_nil (h : SR P w0 X D R st a w) (hf : R site = none) {t ty e : TypeId} {i : TypeInfo} (hu : P.underlying t = some (.slice e)) (hin : P.info? e = some i) (ho : okT P e = true) (hz0 : i.zero.isSome = true)
    (hzz : Nat.beq ((i.zero.map fun z => z.cells.size).getD 0) i.size = true) {ys : List (List AV)} (hby : ys.length * i.bytes ≤ 140737488355328) {xa : Option Addr} {yv : Value} (hy : VR P D R w (.rs e ys) yv) :
    ∃ D' R' v' w', (Builtin.append_ #[t, t] ty #[.slice xa 0 0, yv]).run P w = .ok v' w' ∧ SR P w0 X D' R' (st.mem site (.fr e)) a w' ∧ VR P D' R' w' (.gv site e ys) v' ∧ Fr R R' site := by
  obtain ⟨h1, h2, _⟩ := okT_spec ho
  obtain ⟨z, hz, hsz, hzsz⟩ := elem_info hin hz0 hzz
  cases hy with
  | @rs0 _ ya yc hya =>
    obtain ⟨D', R', q1, q2, q3⟩ := h.newG0 hf xa h1 h2
    exact ⟨D', R', _, _, run_append_nothing hu hin (Nat.le_refl _), q1, q2, q3⟩
  | @rs _ _ yb yo yc f g1 gz g2 g3 g4 g5 g6 g7 =>
    obtain ⟨w1, w2, w3⟩ := WT_rs g5
    obtain ⟨news, hnl, hng, hni⟩ := cells_list gz g6
    have hpos : 0 < ys.length := List.length_pos_iff.2 g1
    have pre : ∀ (l : List Value) i j, i < ys.length → j < P.cellsOf e → (news.toArray ++ l.toArray)[i * P.cellsOf e + j]? = some (f i j) := fun l i j hi hj => by
      have := idx_lt hi hj
      rw [Array.getElem?_append_left (by simpa [hnl] using this)]
      simpa using hni i j hi hj
    have hsz' : ∀ (l : List Value) (c : Nat), l.length = (c - ys.length) * P.cellsOf e → ys.length ≤ c → (news.toArray ++ l.toArray).size = c * P.cellsOf e := fun l c hl hc => by
      simp only [Array.size_append, List.size_toArray, hnl, hl, ← Nat.add_mul]
      congr 1; omega
    cases xa with
    | none =>
      have hrun := run_append_nil (P := P) w t ty e i z hu hin hz ⟨yb, yo, none⟩ ys.length yc news (by rw [hnl, hsz]) hng hpos (by omega) (by omega)
      obtain ⟨D', R', q1, q2, q3⟩ := h.newG hf (cv := news.toArray ++ Builtin.zeroCells z.cells (grownCap w ys.length 0 e - ys.length)) (below_drew w) rfl g1 h1 h2 (grownCap_ge w _ _ _) (grownCap_le_maxLen w _ _ _ w1)
        (by have := hsz' (Builtin.zeroCells z.cells (grownCap w ys.length 0 e - ys.length)).toList _ (by simp [size_zeroCells, hzsz]) (grownCap_ge w ys.length 0 e); simpa using this) g5 (f := f) (fun i j hi hj => by simpa using pre (Builtin.zeroCells z.cells (grownCap w ys.length 0 e - ys.length)).toList i j hi hj) g7
      exact ⟨D', R', _, _, hrun, q1, q2, q3⟩
    | some xa =>
      have hrun := run_append_grow (P := P) w t ty e i z hu hin hz xa 0 0 [] (by simp) (by simp) ⟨yb, yo, none⟩ ys.length yc news (by rw [hnl, hsz]) hng (by omega) (by omega) (by
        rw [Nat.zero_add, nextslicecap_zero hpos]; omega)
      simp only [Nat.zero_add] at hrun
      obtain ⟨D', R', q1, q2, q3⟩ := h.newG hf (cv := #[] ++ news.toArray ++ Builtin.zeroCells z.cells (grownCap w ys.length 0 e - ys.length)) (below_drew w) rfl g1 h1 h2 (grownCap_ge w _ _ _) (grownCap_le_maxLen w _ _ _ w1)
        (by have := hsz' (Builtin.zeroCells z.cells (grownCap w ys.length 0 e - ys.length)).toList _ (by simp [size_zeroCells, hzsz]) (grownCap_ge w ys.length 0 e); simpa using this) g5 (f := f) (fun i j hi hj => by simpa using pre (Builtin.zeroCells z.cells (grownCap w ys.length 0 e - ys.length)).toList i j hi hj) g7
      exact ⟨D', R', _, _, hrun, q1, q2, q3⟩

theorem oneCell_of {c : CT} {d : Nat} {x : AV} {v : Value} (ho : okc P d c = true) (hW : WT P c x) (h : VR P D R w x v) : v.oneCell' = true := by
  cases hW with
  | oth => simp [okc] at ho
  | _ => cases h <;> rfl
/-- append behind what may grow. -/
theorem grow_own (h : SR P w0 X D R st a w) (hf : R site = none) {t ty e : TypeId} {i : TypeInfo} (hu : P.underlying t = some (.slice e)) (hin : P.info? e = some i) (ho : okT P e = true) (hz0 : i.zero.isSome = true)
    (hzz : Nat.beq ((i.zero.map fun z => z.cells.size).getD 0) i.size = true) {es ys : List (List AV)} (hby : (es.length + ys.length) * i.bytes ≤ 140737488355328) {id : Nat} (hno : noOth P 8 e = true) (hm : gm st.m id = .fr e) {xv yv : Value}
    (hx : VR P D R w (.gv id e es) xv) (hy : VR P D R w (.rs e ys) yv) (hlen : es.length + ys.length ≤ 9223372036854775807) :
    ∃ D' R' v' w', (Builtin.append_ #[t, t] ty #[xv, yv]).run P w = .ok v' w' ∧ SR P w0 X D' R' ((st.mem id .dead).mem site (.fr e)) a w' ∧ VR P D' R' w' (.gv site e (es ++ ys)) v' ∧ Fr R R' site := by
  obtain ⟨h1, h2, _⟩ := okT_spec ho
  obtain ⟨z, hz, hsz, hzsz⟩ := elem_info hin hz0 hzz
  cases hx with
  | @gv0 _ _ xa b0 hR =>
    exact grow_nil (h.kill id) hf hu hin ho hz0 hzz (by simpa using hby) hy
  | @gv _ _ _ b c f e1 ez e2 e3 e4 e5 e6 e7 hR =>
    obtain ⟨_, _, b', c', n', r1, r2⟩ := (by simpa [hm] using h.mem id : RowOK P D R w id (.fr e))
    obtain ⟨rfl, rfl, rfl⟩ : b = b' ∧ c = c' ∧ es.length = n' := by rw [hR] at r1; simpa using r1
    have hpos : 0 < es.length := List.length_pos_iff.2 e1
    obtain ⟨hc0, hnc, hcm, cells, hh, hcs⟩ : 0 < c ∧ es.length ≤ c ∧ c ≤ 9223372036854775807 ∧ ∃ cells, w.heap[b]? = some (.cells cells e (0, 0)) ∧ cells.size = c * P.cellsOf e := by
      rcases r2 with r2 | r2
      · omega
      · exact r2
    cases hy with
    | @rs0 _ ya yc hya =>
      obtain ⟨D', hD', mono, hS⟩ := h.extend (w' := w) (n' := es.length) hf hm hR (by omega) (Nat.le_refl _) hnc hcm h2 h1 (fun _ _ => rfl) rfl rfl rfl rfl hh hcs (fun _ _ => rfl)
      refine ⟨D', _, _, w, run_append_nothing hu hin hnc, hS, ?_, .new⟩
      rw [List.append_nil]
      refine .gv (f := f) e1 ez e2 e3 (fun i j hi hj hd => ?_) e5 e6 (fun i j hi hj => mono (e7 i j hi hj)) (by simp [Rn])
      have := ((hD' _ _).1 hd).2 rfl
      have := idx_lt hi hj
      omega
    | @rs _ _ yb yo yc g g1 gz g2 g3 g4 g5 g6 g7 =>
      obtain ⟨w1, w2, w3⟩ := WT_rs g5
      obtain ⟨news, hnl, hng, hni⟩ := cells_list gz g6
      have hypos : 0 < ys.length := List.length_pos_iff.2 g1
      have hW : WT P (.sl e) (.rs e (es ++ ys)) := WT_app e5 g5 hlen
      -- the cells of both
      have both : ∀ {D' : Nat → Nat → Prop} {R' : Nat → Option (Nat × Nat × Nat)} {w' : World}, (∀ {x : AV} {v : Value}, VR P D R w x v → VR P D' R' w' x v) → ∀ i j, i < (es ++ ys).length → j < P.cellsOf e →
          VR P D' R' w' (((es ++ ys).getD i []).getD j .u) (if i < es.length then f i j else g (i - es.length) j) := fun mono i j hi hj => by
        rw [getD_app]
        split
        · rename_i h'
          exact mono (e7 i j h' hj)
        · simp only [List.length_append] at hi
          exact mono (g7 (i - es.length) j (by omega) hj)
      by_cases hroom : es.length + ys.length ≤ c
      · have hmul := Nat.mul_le_mul_right (P.cellsOf e) hroom
        rw [Nat.add_mul] at hmul
        have hone : ∀ u ∈ news, u.oneCell' = true := by
          intro u hu
          obtain ⟨k, hk, hk2⟩ := List.mem_iff_getElem.1 hu
          have hk' : k < ys.length * P.cellsOf e := by omega
          have hdv : k / P.cellsOf e < ys.length := (Nat.div_lt_iff_lt_mul gz).2 hk'
          have hmd := Nat.mod_lt k gz
          have := hni _ _ hdv hmd
          rw [show k / P.cellsOf e * P.cellsOf e + k % P.cellsOf e = k by rw [Nat.mul_comm]; exact Nat.div_add_mod k _] at this
          have he : u = g (k / P.cellsOf e) (k % P.cellsOf e) := by
            rw [List.getElem?_eq_getElem hk] at this
            rw [← hk2]; simpa using this
          rw [he]
          exact oneCell_of (noOth_cell hno (by rw [g3]; exact hmd)) (w3 _ (getD_mem' hdv) _ (by rw [w2 _ (getD_mem' hdv), g3]; exact hmd)) (g7 _ _ hdv hmd)
        have hrun := run_append_room (P := P) w t ty e i hu hin b es.length c cells hh ⟨yb, yo, none⟩ ys.length yc news (by rw [hnl, hsz]) hng hone hroom (by rw [hnl, hsz, hcs]; omega)
        rw [hsz] at hrun
        generalize hw' : w.setRow b (cells.toList.take (es.length * P.cellsOf e) ++ news ++ cells.toList.drop (es.length * P.cellsOf e + news.length)).toArray = w' at hrun
        have hcl : cells.toList.length = c * P.cellsOf e := by simpa using hcs
        have hlen' : (cells.toList.take (es.length * P.cellsOf e) ++ news ++ cells.toList.drop (es.length * P.cellsOf e + news.length)).length = c * P.cellsOf e := by
          simp only [List.length_append, List.length_take, List.length_drop, Array.length_toList, hcs, hnl]; omega
        have hw'b : w'.heap[b]? = some (.cells (cells.toList.take (es.length * P.cellsOf e) ++ news ++ cells.toList.drop (es.length * P.cellsOf e + news.length)).toArray e (0, 0)) := by
          rw [← hw']; exact setRow_heap w b cells _ e _ hh
        have hget : ∀ k, (cells.toList.take (es.length * P.cellsOf e) ++ news ++ cells.toList.drop (es.length * P.cellsOf e + news.length))[k]? = if k < es.length * P.cellsOf e then cells.toList[k]? else if k < es.length * P.cellsOf e + news.length then news[k - es.length * P.cellsOf e]? else cells.toList[k]? :=
          fun k => splice_get _ _ _ _ (by omega)
        obtain ⟨D', hD', mono, hS⟩ := h.extend (w' := w') (n' := es.length + ys.length) hf hm hR (by omega) (by omega) hroom hcm h2 h1 (fun k hk => by rw [← hw']; exact setRow_other w b k _ hk) (by rw [← hw']; simp) (by rw [← hw']; rfl) (by rw [← hw']; rfl) (by rw [← hw']; rfl) hw'b (by rw [List.size_toArray, hlen'])
          (fun o ho => by
            simp only [World.cell?, hw'b, hh, List.getElem?_toArray]
            rw [hget o]
            simp [ho])
        refine ⟨D', _, _, w', hrun, hS, ?_, .new⟩
        have hl : (es ++ ys).length = es.length + ys.length := List.length_append
        have key : VR P D' (Rn R site b (c, es.length + ys.length)) w' (.gv site e (es ++ ys)) (.slice (some ⟨b, 0, none⟩) (es ++ ys).length c) := ?_
        · rw [hl] at key; exact key
        refine .gv (f := fun i j => if i < es.length then f i j else g (i - es.length) j) (by simp [e1]) h2 (by rw [hl]; exact hroom) h1 (fun i j hi hj hd => ?_) hW (fun i j hi hj => ?_) (both mono) (by simp [Rn, hl])
        · have := ((hD' _ _).1 hd).2 rfl
          rw [hl] at hi
          have := idx_lt hi hj
          omega
        · simp only [World.cell?, hw'b, List.getElem?_toArray, Nat.zero_add]
          rw [hget]
          by_cases hi' : i < es.length
          · have := idx_lt hi' hj
            simp only [this, hi', if_true]
            have := e6 i j hi' hj
            simpa [World.cell?, hh] using this
          · have h4 : es.length * P.cellsOf e ≤ i * P.cellsOf e + j := by
              have := Nat.mul_le_mul_right (P.cellsOf e) (show es.length ≤ i by omega)
              omega
            rw [hl] at hi
            have h5 := idx_lt (show i - es.length < ys.length by omega) hj
            rw [Nat.sub_mul] at h5
            have h6 : es.length * P.cellsOf e ≤ i * P.cellsOf e := Nat.mul_le_mul_right _ (by omega)
            have h7 : i * P.cellsOf e + j < es.length * P.cellsOf e + news.length := by rw [hnl]; omega
            simp only [show ¬ i * P.cellsOf e + j < es.length * P.cellsOf e by omega, h7, hi', if_true, if_false]
            have h8 : i * P.cellsOf e + j - es.length * P.cellsOf e = (i - es.length) * P.cellsOf e + j := by rw [Nat.sub_mul]; omega
            rw [h8]
            exact hni (i - es.length) j (by omega) hj
      · obtain ⟨olds, hol, hog, hoi⟩ := cells_list ez e6
        have hrun := run_append_grow (P := P) w t ty e i z hu hin hz ⟨b, 0, none⟩ es.length c olds (by rw [hol, hsz]) hog ⟨yb, yo, none⟩ ys.length yc news (by rw [hnl, hsz]) hng (by omega) (by omega) (growslice_fits (by omega) hby)
        have hl : (es ++ ys).length = es.length + ys.length := List.length_append
        have hge := grownCap_ge w (es.length + ys.length) c e
        obtain ⟨D', R', q1, q2, q3⟩ := (h.kill id).newG hf (es := es ++ ys) (cv := olds.toArray ++ news.toArray ++ Builtin.zeroCells z.cells (grownCap w (es.length + ys.length) c e - (es.length + ys.length))) (c := grownCap w (es.length + ys.length) c e) (below_drew w) rfl (by simp [e1]) h1 h2 (by rw [hl]; exact hge) (grownCap_le_maxLen w _ _ _ hlen)
          (by simp only [Array.size_append, List.size_toArray, hol, hnl, size_zeroCells, hzsz, ← Nat.add_mul]; congr 1; omega) hW (f := fun i j => if i < es.length then f i j else g (i - es.length) j) (fun i j hi hj => by
            rw [hl] at hi
            have h5 := idx_lt hi hj
            rw [Array.getElem?_append_left (by simp only [Array.size_append, List.size_toArray, hol, hnl, ← Nat.add_mul]; exact h5)]
            by_cases hi' : i < es.length
            · have := idx_lt hi' hj
              rw [Array.getElem?_append_left (by simpa [hol] using this)]
              simpa [hi'] using hoi i j hi' hj
            · have h4 : es.length * P.cellsOf e ≤ i * P.cellsOf e := Nat.mul_le_mul_right _ (by omega)
              rw [Array.getElem?_append_right (by simp [hol]; omega)]
              simp only [hi', if_false, List.size_toArray, hol, List.getElem?_toArray]
              have h8 : i * P.cellsOf e + j - es.length * P.cellsOf e = (i - es.length) * P.cellsOf e + j := by rw [Nat.sub_mul]; omega
              rw [h8]
              exact hni (i - es.length) j (by omega) hj) (both fun h => h)
        rw [hl] at q2
        exact ⟨D', R', _, _, hrun, q1, q2, q3⟩
end Go.Ev

set_option linter.unusedVariables false
set_option linter.unusedSimpArgs false
namespace Go.Ev
open Go Go.RowKit

variable {P : Program} {w0 : Base} {X D : Nat → Nat → Prop} {R : Nat → Option (Nat × Nat × Nat)} {st : St} {a : Act} {w : World}

mutual
theorem sameV_eq : ∀ {x y : AV}, plain x = true → plain y = true → (sameV x y = true ↔ x = y)
  | .b x, y, h1, h2 => by cases y <;> simp [sameV, plain] at *
  | .i k x, y, h1, h2 => by
    cases y <;> simp [sameV, plain] at *
  | .s x, y, h1, h2 => by
    cases y <;> simp [sameV, plain] at *
    rename_i y
    have hb := Go.beq_toListBytes x y
    constructor
    · intro h
      have h2 : (x == y) = true := by rw [hb]; simp [h]
      exact (Go.MapKept.bytes_beq _ _).1 h2
    · intro h; rw [h]
  | .agg x, y, h1, h2 => by
    cases y <;> simp only [sameV, plain, Bool.false_eq_true, false_iff, reduceCtorEq, not_false_eq_true, AV.agg.injEq] at *
    · exact sameL_eq h1 h2
  | .nl, y, h1, h2 => by simp [plain] at h1
  | .rs _ _, y, h1, h2 => by simp [plain] at h1
  | .sl _ _ _, y, h1, h2 => by simp [plain] at h1
  | .p _ _ _, y, h1, h2 => by simp [plain] at h1
  | .rp _ _ _, y, h1, h2 => by simp [plain] at h1
  | .np, y, h1, h2 => by simp [plain] at h1
  | .fn _ _, y, h1, h2 => by simp [plain] at h1
  | .nf, y, h1, h2 => by simp [plain] at h1
  | .yl _, y, h1, h2 => by simp [plain] at h1
  | .ni, y, h1, h2 => by simp [plain] at h1
  | .ifc _ _, y, h1, h2 => by simp [plain] at h1
  | .tup _, y, h1, h2 => by simp [plain] at h1
  | .e0 _, y, h1, h2 => by simp [plain] at h1
  | .gv _ _ _, y, h1, h2 => by simp [plain] at h1
  | .sa _ _ _ _, y, h1, h2 => by simp [plain] at h1
  | .mp _, y, h1, h2 => by simp [plain] at h1
  | .it _, y, h1, h2 => by simp [plain] at h1
  | .u, y, h1, h2 => by simp [plain] at h1
theorem sameL_eq : ∀ {x y : List AV}, plainL x = true → plainL y = true → (sameL x y = true ↔ x = y)
  | [], [], _, _ => by simp [sameL]
  | [], _ :: _, _, _ => by simp [sameL]
  | _ :: _, [], _, _ => by simp [sameL]
  | a :: x, b :: y, h1, h2 => by
    simp only [plainL, Bool.and_eq_true] at h1 h2
    simp only [sameL, Bool.and_eq_true, List.cons.injEq, sameV_eq h1.1 h2.1, sameL_eq h1.2 h2.2]
end

theorem plainL_at : ∀ {l : List AV} {i : Nat}, plainL l = true → i < l.length → plain (l.getD i .u) = true
  | [], i, _, h => by simp at h
  | a :: l, i, h, hi => by
    simp only [plainL, Bool.and_eq_true] at h
    cases i with
    | zero => simpa using h.1
    | succ i => simpa using plainL_at h.2 (by simpa using hi)
theorem toVL_at : ∀ {l : List AV} {i : Nat}, i < l.length → (toVL l).getD i undef = toV (l.getD i .u)
  | [], i, h => by simp at h
  | a :: l, 0, _ => by simp [toVL]
  | a :: l, i + 1, h => by simpa [toVL] using toVL_at (by simpa using h)

/-- Cells of flat types. -/
theorem flatT_ct {t : TypeId} (h : flatT P t = true) : ∃ c d, cts P t = [c] ∧ P.underlying t = some d ∧ isAgg P t = false ∧ ((∃ k, c = .int k ∧ d = .int k) ∨ (c = .bool ∧ d = .bool) ∨ (c = .str ∧ d = .string)) := by
  unfold flatT at h
  cases hu : P.underlying t with
  | none => simp [hu] at h
  | some d =>
    rw [hu] at h
    cases d <;> simp at h
    · exact ⟨.bool, _, by simp [cts, ctsOf, hu], rfl, by simp [isAgg, hu], .inr (.inl ⟨rfl, rfl⟩)⟩
    · exact ⟨.int _, _, by simp [cts, ctsOf, hu], rfl, by simp [isAgg, hu], .inl ⟨_, rfl, rfl⟩⟩
    · exact ⟨.str, _, by simp [cts, ctsOf, hu], rfl, by simp [isAgg, hu], .inr (.inr ⟨rfl, rfl⟩)⟩
theorem flat_eq {t : TypeId} (h : flatT P t = true) {c : CT} (hc : cts P t = [c]) {x y : AV} (hx : WT P c x) (hy : WT P c y) (hpx : plain x = true) (hpy : plain y = true) (d : Nat) :
    (Op.equalIn (d + 1) t (toV x) (toV y)).run P w = .ok (sameV x y) w ∧ (∀ ds, P.underlying t = some ds → Instr.sameNow ds (toV x) (toV y) = some (sameV x y)) ∧ ∀ n, Instr.sameBits n (toV x) (toV x) = true := by
  obtain ⟨c', ds, h1, h2, _, h3⟩ := flatT_ct h
  obtain rfl : c = c' := by rw [hc] at h1; simpa using h1
  rcases h3 with ⟨k, rfl, rfl⟩ | ⟨rfl, rfl⟩ | ⟨rfl, rfl⟩
  · cases hx; cases hy
    simp only [toV, sameV]
    refine ⟨by rw [run_equalIn_int w d t _ _ _ _ h2]; simp; rfl, fun ds hds => ?_, fun n => by cases n <;> simp [Instr.sameBits]⟩
    obtain rfl := Option.some.inj (h2.symm.trans hds)
    simp [Instr.sameNow]; rfl
  · cases hx; cases hy
    simp only [toV, sameV]
    refine ⟨run_equalIn_bool' w d t _ _ h2, fun ds hds => ?_, fun n => by cases n <;> simp [Instr.sameBits]⟩
    obtain rfl := Option.some.inj (h2.symm.trans hds)
    simp [Instr.sameNow]
  · cases hx; cases hy
    simp only [toV, sameV]
    refine ⟨run_equalIn_string w d t _ _ h2, fun ds hds => ?_, fun n => by cases n <;> simp [Instr.sameBits, Go.beq_toListBytes]⟩
    obtain rfl := Option.some.inj (h2.symm.trans hds)
    simp [Instr.sameNow, Go.beq_toListBytes]
theorem ctsAt_one {all : List CT} {i : Nat} {c : CT} (h : ctsEq ((all.drop i).take 1) [c] = true) : all.getD i .oth = c ∧ i < all.length := by
  have := ctsEq_eq h
  cases hd : all.drop i with
  | nil => simp [hd] at this
  | cons a l =>
    rw [hd] at this
    simp at this
    subst this
    have hlt : i < all.length := by
      rcases Nat.lt_or_ge i all.length with g | g
      · exact g
      · rw [List.drop_eq_nil_of_le g] at hd; cases hd
    have h3 := hd.symm.trans (List.drop_eq_getElem_cons hlt)
    injection h3 with h4 h5
    exact ⟨by simp [List.getD_eq_getElem?_getD, List.getElem?_eq_getElem hlt, h4], hlt⟩
theorem run_part_flat {t : TypeId} (h : flatT P t = true) {cs : List AV} {i : Nat} (hi : i < cs.length) : (part t (toVL cs).toArray i).run P w = .ok (toV (cs.getD i .u)) w := by
  obtain ⟨_, d, _, hu, hA, _⟩ := flatT_ct h
  have hl : i < (toVL cs).length := by rw [toVL_length]; exact hi
  have := toVL_at hi
  rw [List.getD_eq_getElem?_getD, List.getElem?_eq_getElem hl] at this
  simp only [part, Sem.run_bind, run_isAgg' hu, hA, Result.andThen_ok, Bool.false_eq_true, if_false]
  simp [hl]
  simpa using this
theorem sameL_drop {xs ys : List AV} {i : Nat} (h1 : i < xs.length) (h2 : i < ys.length) : sameL (xs.drop i) (ys.drop i) = (sameV (xs.getD i .u) (ys.getD i .u) && sameL (xs.drop (i + 1)) (ys.drop (i + 1))) := by
  rw [List.drop_eq_getElem_cons h1, List.drop_eq_getElem_cons h2]
  simp [sameL, List.getD_eq_getElem?_getD, h1, h2]

theorem fields_eq {all : List CT} {xs ys : List AV} (hx : WTs P all xs) (hy : WTs P all ys) (hpx : plainL xs = true) (hpy : plainL ys = true) (d : Nat) : ∀ (fs : List Field) (i : Nat), i + fs.length = all.length →
    (∀ x, x ∈ fs.zipIdx i → (flatT P x.1.type && (x.1.name != "_" && (Nat.beq x.1.offset x.2 && ctsEq ((all.drop x.2).take 1) (cts P x.1.type)))) = true) →
    (Op.eqFields (d + 1) (toVL xs).toArray (toVL ys).toArray fs).run P w = .ok (sameL (xs.drop i) (ys.drop i)) w
  | [], i, hl, _ => by
    have e1 : xs.drop i = [] := List.drop_eq_nil_of_le (by rw [hx.1]; simp at hl; omega)
    have e2 : ys.drop i = [] := List.drop_eq_nil_of_le (by rw [hy.1]; simp at hl; omega)
    rw [e1, e2]
    simp [Op.eqFields, sameL]
  | f :: fs, i, hl, hf => by
    simp only [List.length_cons] at hl
    have h0 := hf (f, i) (by simp [List.zipIdx_cons])
    simp only [Bool.and_eq_true] at h0
    obtain ⟨g1, g2, g3, g4⟩ := h0
    obtain ⟨c, ds, hc, _⟩ := flatT_ct g1
    rw [hc] at g4
    obtain ⟨g5, g6⟩ := ctsAt_one g4
    have g3 := Nat.eq_of_beq_eq_true g3
    have hix : i < xs.length := by rw [hx.1]; exact g6
    have hiy : i < ys.length := by rw [hy.1]; exact g6
    have q1 := (flat_eq (w := w) g1 hc (g5 ▸ hx.2 i hix) (g5 ▸ hy.2 i hiy) (plainL_at hpx hix) (plainL_at hpy hiy) d).1
    have hn : f.name ≠ "_" := by simpa using g2
    rw [Op.eqFields, if_pos hn, g3, sameL_drop hix hiy]
    simp only [Sem.run_bind, run_part_flat g1 hix, run_part_flat g1 hiy, q1, Result.andThen_ok]
    cases sameV (xs.getD i .u) (ys.getD i .u)
    · simp
    · simpa using fields_eq hx hy hpx hpy d fs (i + 1) (by omega) fun x hx => hf x (by rw [List.zipIdx_cons]; exact .tail _ hx)
theorem items_eq {all : List CT} {e : TypeId} {xs ys : List AV} (hx : WTs P all xs) (hy : WTs P all ys) (hpx : plainL xs = true) (hpy : plainL ys = true) (he : flatT P e = true) (h1 : P.cellsOf e = 1) (d : Nat) : ∀ (m i : Nat), i + m = all.length →
    (∀ j, i ≤ j → j < all.length → ctsEq ((all.drop j).take 1) (cts P e) = true) →
    (Op.eqItems (d + 1) e (P.cellsOf e) (toVL xs).toArray (toVL ys).toArray (List.range' i m)).run P w = .ok (sameL (xs.drop i) (ys.drop i)) w
  | 0, i, hl, _ => by
    have e1 : xs.drop i = [] := List.drop_eq_nil_of_le (by rw [hx.1]; omega)
    have e2 : ys.drop i = [] := List.drop_eq_nil_of_le (by rw [hy.1]; omega)
    rw [e1, e2]
    simp [Op.eqItems, sameL]
  | m + 1, i, hl, hf => by
    obtain ⟨c, ds, hc, _⟩ := flatT_ct he
    have h0 := hf i (Nat.le_refl _) (by omega)
    rw [hc] at h0
    obtain ⟨g5, g6⟩ := ctsAt_one h0
    have hix : i < xs.length := by rw [hx.1]; exact g6
    have hiy : i < ys.length := by rw [hy.1]; exact g6
    have q1 := (flat_eq (w := w) he hc (g5 ▸ hx.2 i hix) (g5 ▸ hy.2 i hiy) (plainL_at hpx hix) (plainL_at hpy hiy) d).1
    rw [List.range'_succ, sameL_drop hix hiy]
    simp only [Op.eqItems, Sem.run_bind, show i * P.cellsOf e = i by rw [h1]; omega, run_part_flat he hix, run_part_flat he hiy, q1, Result.andThen_ok]
    cases sameV (xs.getD i .u) (ys.getD i .u)
    · simp
    · simpa using items_eq hx hy hpx hpy he h1 d m (i + 1) (by omega) fun j hj => hf j (by omega)

/-- What is known of keys of a type. -/
theorem key_eq {t : TypeId} (hk : keyT P t = true) {x y : AV} (hx : TV P t x) (hy : TV P t y) (hpx : plain x = true) (hpy : plain y = true) (d : Nat) :
    (Op.equalIn (d + 2) t (toV x) (toV y)).run P w = .ok (sameV x y) w := by
  have flat : flatT P t = true → (Op.equalIn (d + 2) t (toV x) (toV y)).run P w = .ok (sameV x y) w := fun hf => by
    obtain ⟨c, ds, hc, hu, hA, _⟩ := flatT_ct hf
    have hwx := hx.w
    have hwy := hy.w
    rw [hx.n hA, hc] at hwx
    rw [hy.n hA, hc] at hwy
    exact (flat_eq hf hc (by simpa using hwx.2 0 (by simp)) (by simpa using hwy.2 0 (by simp)) hpx hpy (d + 1)).1
  unfold keyT at hk
  cases hu : P.underlying t with
  | none => simp [hu] at hk
  | some ds =>
    rw [hu] at hk
    cases ds <;> simp only at hk <;> first | (cases hk; done) | skip
    case bool => exact flat (by simp [flatT, hu])
    case int k => exact flat (by simp [flatT, hu])
    case string => exact flat (by simp [flatT, hu])
    case array n e =>
      simp only [Bool.and_eq_true] at hk
      obtain ⟨g1, g2, g3, g4, g5⟩ := hk
      have hA : isAgg P t = true := by simp [isAgg, hu]
      obtain ⟨xs, rfl⟩ := hx.a hA
      obtain ⟨ys, rfl⟩ := hy.a hA
      obtain ⟨i, hi⟩ := Option.isSome_iff_exists.1 g1
      have hn := Nat.eq_of_beq_eq_true g2
      simp only [toV, sameV]
      rw [run_equalIn_array (P := P) w (d + 1) _ _ hu hi, List.range_eq_range']
      have := items_eq (w := w) (show WTs P (cts P t) xs from hx.w) (show WTs P (cts P t) ys from hy.w) (by simpa [plain] using hpx) (by simpa [plain] using hpy) g3 (Nat.eq_of_beq_eq_true g4) d n 0 (by omega) fun j _ hj => List.all_eq_true.1 g5 j (by simpa using by omega)
      simpa using this
    case struct fs =>
      simp only [Bool.and_eq_true] at hk
      obtain ⟨g1, g2, g3⟩ := hk
      have hA : isAgg P t = true := by simp [isAgg, hu]
      obtain ⟨xs, rfl⟩ := hx.a hA
      obtain ⟨ys, rfl⟩ := hy.a hA
      have hf : P.fieldsOf t = fs := by simp [Program.fieldsOf, hu]
      simp only [toV, sameV]
      rw [run_equalIn_struct (P := P) w (d + 1) t _ _ (by rw [hf]; exact hu) (by simpa using g1), hf]
      have := fields_eq (w := w) (show WTs P (cts P t) xs from hx.w) (show WTs P (cts P t) ys from hy.w) (by simpa [plain] using hpx) (by simpa [plain] using hpy) d fs.toList 0 (by have := Nat.eq_of_beq_eq_true g2; simp; omega) fun x hx => by
        have := List.all_eq_true.1 g3 x hx
        simpa using this
      simpa using this

/-- Keys may be keys. -/
theorem check_flat {t : TypeId} (h : flatT P t = true) (v : Value) (em : Bool) (n : Nat) : (Instr.checkKey em (n + 1) t v).run P w = .ok () w := by
  obtain ⟨_, d, _, hu, _, hd⟩ := flatT_ct h
  rw [Instr.checkKey]
  simp only [Sem.run_bind, run_underlying' hu, Result.andThen_ok]
  rcases hd with ⟨k, _, rfl⟩ | ⟨_, rfl⟩ | ⟨_, rfl⟩ <;> rfl
theorem check_ok {t : TypeId} (hk : keyT P t = true) {x : AV} (hx : TV P t x) (em : Bool) (n : Nat) : (Instr.checkKey em (n + 2) t (toV x)).run P w = .ok () w := by
  unfold keyT at hk
  cases hu : P.underlying t with
  | none => simp [hu] at hk
  | some ds =>
    rw [hu] at hk
    cases ds <;> simp only at hk <;> first | (cases hk; done) | skip
    case bool => exact check_flat (by simp [flatT, hu]) _ _ _
    case int k => exact check_flat (by simp [flatT, hu]) _ _ _
    case string => exact check_flat (by simp [flatT, hu]) _ _ _
    case array m e =>
      simp only [Bool.and_eq_true] at hk
      obtain ⟨g1, g2, g3, g4, g5⟩ := hk
      have hA : isAgg P t = true := by simp [isAgg, hu]
      obtain ⟨xs, rfl⟩ := hx.a hA
      obtain ⟨i, hi⟩ := Option.isSome_iff_exists.1 g1
      have hw : WTs P (cts P t) xs := hx.w
      have hl : xs.length = m := by rw [hw.1]; exact Nat.eq_of_beq_eq_true g2
      have h1 := Nat.eq_of_beq_eq_true g4
      rw [Instr.checkKey]
      simp only [Sem.run_bind, run_underlying' hu, Result.andThen_ok, toV]
      have key : ∀ (is : List Nat), (∀ i, i ∈ is → i < m) → (forIn is PUnit.unit (fun (i : Nat) (_ : PUnit) => (do Instr.checkKey em (n + 1) e (← part e (toVL xs).toArray (i * (← sizeOf e))); pure (ForInStep.yield PUnit.unit) : Sem (ForInStep PUnit)))).run P w = .ok PUnit.unit w := by
        intro is
        induction is with
        | nil => intro _; simp
        | cons j is ih =>
          intro hj
          have hjl : j < xs.length := by rw [hl]; exact hj j (by simp)
          have hs : (sizeOf e).run P w = .ok 1 w := by rw [run_sizeOf' (by omega)]; rw [h1]
          simp only [List.forIn_cons, Sem.run_bind, hs, Result.andThen_ok, Nat.mul_one, run_part_flat g3 hjl, check_flat g3, Sem.run_pure]
          exact ih fun i hi => hj i (by simp [hi])
      simp only [Std.Legacy.Range.forIn_eq_forIn_range', Std.Legacy.Range.size, Nat.sub_zero, Nat.add_one_sub_one, Nat.div_one]
      have := key (List.range' 0 m) (fun i hi => by simp at hi; omega)
      simp at this ⊢
      rw [this]
      rfl
    case struct fs =>
      simp only [Bool.and_eq_true] at hk
      obtain ⟨g1, g2, g3⟩ := hk
      have hA : isAgg P t = true := by simp [isAgg, hu]
      obtain ⟨xs, rfl⟩ := hx.a hA
      have hw : WTs P (cts P t) xs := hx.w
      have hl : xs.length = fs.size := by rw [hw.1]; exact Nat.eq_of_beq_eq_true g2
      rw [Instr.checkKey]
      simp only [Sem.run_bind, run_underlying' hu, Result.andThen_ok, toV]
      have hall : ∀ f, f ∈ fs.toList → flatT P f.type = true ∧ f.offset < xs.length := fun f hf => by
        obtain ⟨i, hi, rfl⟩ := List.mem_iff_getElem.1 hf
        have := List.all_eq_true.1 g3 (fs.toList[i], i) (by rw [List.mem_zipIdx_iff_getElem?]; simp)
        simp only [Bool.and_eq_true] at this
        have h2 := Nat.eq_of_beq_eq_true this.2.2.1
        refine ⟨this.1, ?_⟩
        rw [h2, hl]; simpa using hi
      rw [← Array.forIn_toList]
      generalize fs.toList = l at hall
      induction l with
      | nil => simp
      | cons f l ih =>
        obtain ⟨q1, q2⟩ := hall f (by simp)
        have ih := ih fun g hg => hall g (by simp [hg])
        simp only [List.forIn_cons, Sem.run_bind, Sem.run_ite] at ih ⊢
        split
        · simp only [Sem.run_bind, run_part_flat q1 q2, check_flat q1, Sem.run_pure, Result.andThen_ok] at ih ⊢
          exact ih
        · simp only [Sem.run_pure, Result.andThen_ok] at ih ⊢
          exact ih

/-- What a map holds, with its place. -/
def mfind (k : AV) : List (AV × AV) → Nat → Option (Nat × AV)
  | [], _ => none
  | (k', v) :: r, i => cond (sameV k k') (some (i, v)) (mfind k r (i + 1))
theorem mfind_get (k : AV) : ∀ (es : List (AV × AV)) (i : Nat), (mfind k es i).map (·.2) = mget k es
  | [], _ => rfl
  | (k', v) :: r, i => by
    simp only [mfind, mget]
    cases sameV k k'
    · exact mfind_get k r (i + 1)
    · rfl
theorem mfind_at {k : AV} : ∀ {es : List (AV × AV)} {i j : Nat} {v : AV}, mfind k es i = some (j, v) → ∃ m, j = i + m ∧ ∃ k', es[m]? = some (k', v) ∧ sameV k k' = true
  | [], i, j, v, h => by cases h
  | (k', v') :: r, i, j, v, h => by
    simp only [mfind] at h
    cases hs : sameV k k' with
    | true =>
      rw [hs] at h
      simp only [cond_true, Option.some.injEq, Prod.mk.injEq] at h
      exact ⟨0, by omega, k', by simp [h.2], hs⟩
    | false =>
      rw [hs] at h
      obtain ⟨m, h1, k2, h2, h3⟩ := mfind_at (es := r) h
      exact ⟨m + 1, by omega, k2, by simpa using h2, h3⟩
/-- A map's entries. -/
def Ent (P : Program) (kt : TypeId) (es : List (AV × AV)) (l : List MapEntry) : Prop :=
  l.length = es.length ∧ ∀ i, i < es.length → TV P kt (es.getD i (.u, .u)).1 ∧ plain (es.getD i (.u, .u)).1 = true ∧ (l.getD i default).key = toV (es.getD i (.u, .u)).1
theorem Ent.tail {kt : TypeId} {e : AV × AV} {es : List (AV × AV)} {m : MapEntry} {l : List MapEntry} (h : Ent P kt (e :: es) (m :: l)) : Ent P kt es l :=
  ⟨by simpa using h.1, fun i hi => by simpa using h.2 (i + 1) (by simpa using hi)⟩
theorem find_asking {kt : TypeId} (hk : keyT P kt = true) {x : AV} (hx : TV P kt x) (hp : plain x = true) : ∀ (es : List (AV × AV)) (l : List MapEntry) (i : Nat), Ent P kt es l →
    (Instr.findAsking kt (toV x) l i).run P w = .ok ((mfind x es i).map fun r => (r.1, (l.getD (r.1 - i) default).val)) w
  | [], [], i, _ => by simp [Instr.findAsking, mfind]
  | [], _ :: _, i, h => by simp [Ent] at h
  | _ :: _, [], i, h => by simp [Ent] at h
  | (k', v) :: es, m :: l, i, h => by
    obtain ⟨g1, g2, g3⟩ := h.2 0 (by simp)
    simp only [List.getD_cons_zero] at g1 g2 g3
    have he : (Op.equal kt (toV x) m.key).run P w = .ok (sameV x k') w := by rw [g3]; exact key_eq hk hx g1 hp g2 9998
    simp only [Instr.findAsking, Sem.run_bind, he, Result.andThen_ok, mfind]
    cases sameV x k'
    · simp only [Bool.false_eq_true, if_false, cond_false]
      rw [find_asking hk hx hp es l (i + 1) h.tail]
      congr 1
      cases hm : mfind x es (i + 1) with
      | none => rfl
      | some r =>
        obtain ⟨j, v'⟩ := r
        obtain ⟨q, hq, _⟩ := mfind_at hm
        simp only [Option.map_some]
        rw [show j - i = (j - (i + 1)) + 1 by omega, List.getD_cons_succ]
    · simp
theorem find_now {kt : TypeId} {ds : TypeDesc} (hu : P.underlying kt = some ds) (hf : flatT P kt = true) {x : AV} (hx : TV P kt x) (hp : plain x = true) : ∀ (es : List (AV × AV)) (l : List MapEntry) (i : Nat), Ent P kt es l →
    Instr.findNow ds (toV x) l i = some ((mfind x es i).map fun r => (r.1, (l.getD (r.1 - i) default).val))
  | [], [], i, _ => by simp [Instr.findNow, mfind]
  | [], _ :: _, i, h => by simp [Ent] at h
  | _ :: _, [], i, h => by simp [Ent] at h
  | (k', v) :: es, m :: l, i, h => by
    obtain ⟨g1, g2, g3⟩ := h.2 0 (by simp)
    simp only [List.getD_cons_zero] at g1 g2 g3
    obtain ⟨c, ds', hc, hu', hA, _⟩ := flatT_ct hf
    have hwx := hx.w
    have hwy := g1.w
    rw [hx.n hA, hc] at hwx
    rw [g1.n hA, hc] at hwy
    have he := (flat_eq (P := P) (w := default) hf hc (by simpa using hwx.2 0 (by simp)) (by simpa using hwy.2 0 (by simp)) hp g2 0).2.1 ds hu
    simp only [Instr.findNow, g3, he, mfind]
    cases sameV x k'
    · simp only [cond_false]
      rw [find_now hu hf hx hp es l (i + 1) h.tail]
      congr 1
      cases hm : mfind x es (i + 1) with
      | none => rfl
      | some r =>
        obtain ⟨j, v'⟩ := r
        obtain ⟨q, hq, _⟩ := mfind_at hm
        simp only [Option.map_some]
        rw [show j - i = (j - (i + 1)) + 1 by omega, List.getD_cons_succ]
    · simp
theorem find_key {kt : TypeId} (hk : keyT P kt = true) {x : AV} (hx : TV P kt x) (hp : plain x = true) {es : List (AV × AV)} {l : List MapEntry} (h : Ent P kt es l) :
    (Instr.findKey kt (toV x) l).run P w = .ok ((mfind x es 0).map fun r => (r.1, (l.getD r.1 default).val)) w := by
  by_cases hf : flatT P kt = true
  · obtain ⟨c, ds, hc, hu, _⟩ := flatT_ct hf
    have := find_now hu hf hx hp es l 0 h
    simp only [Instr.findKey, Sem.run_bind, run_underlying' hu, Result.andThen_ok, this, Sem.run_pure]
    simp
  · rw [run_findKey_eq w (by
      unfold keyT at hk
      unfold flatT at hf
      cases hu : P.underlying kt with
      | none => simp [hu] at hk
      | some d => cases d <;> simp [hu] at hk hf ⊢)]
    have := find_asking (w := w) hk hx hp es l 0 h
    simpa using this

theorem mset_none {k v : AV} : ∀ (es : List (AV × AV)) (i : Nat), mfind k es i = none → mset k v es = es ++ [(k, v)]
  | [], _, _ => rfl
  | (k', v') :: r, i, h => by
    simp only [mfind] at h
    cases hs : sameV k k' with
    | true => rw [hs] at h; cases h
    | false =>
      rw [hs] at h
      simp only [mset, hs, cond_false, List.cons_append]
      rw [mset_none r (i + 1) h]
theorem mset_some {k v : AV} : ∀ (es : List (AV × AV)) (i : Nat) {j : Nat} {v0 : AV}, mfind k es i = some (j, v0) → mset k v es = es.set (j - i) (k, v)
  | [], _, _, _, h => by cases h
  | (k', v') :: r, i, j, v0, h => by
    simp only [mfind] at h
    cases hs : sameV k k' with
    | true =>
      rw [hs] at h
      simp only [cond_true, Option.some.injEq, Prod.mk.injEq] at h
      simp [mset, hs, h.1]
    | false =>
      rw [hs] at h
      obtain ⟨m, h1, _⟩ := mfind_at (es := r) h
      simp only [mset, hs, cond_false]
      rw [mset_some r (i + 1) h, show j - i = (j - (i + 1)) + 1 by omega, List.set_cons_succ]
theorem bits_flat {c : CT} {x : AV} (hW : WT P c x) (hc : (∃ k, c = .int k) ∨ c = .bool ∨ c = .str) (n : Nat) : Instr.sameBits n (toV x) (toV x) = true := by
  cases hW with
  | int => cases n <;> simp [toV, Instr.sameBits]
  | bool => cases n <;> simp [toV, Instr.sameBits]
  | str => cases n <;> simp [toV, Instr.sameBits, Go.beq_toListBytes]
  | sl => simp at hc
  | oth => simp at hc
theorem key_cts {t : TypeId} (hk : keyT P t = true) {cs : List AV} (hl : cs.length = (cts P t).length) (i : Nat) (hi : i < cs.length) : (∃ k, (cts P t).getD i .oth = .int k) ∨ (cts P t).getD i .oth = .bool ∨ (cts P t).getD i .oth = .str := by
  have of : ∀ {t : TypeId} {c : CT}, flatT P t = true → cts P t = [c] → (∃ k, c = .int k) ∨ c = .bool ∨ c = .str := fun hf hc => by
    obtain ⟨c', d, h1, _, _, h2⟩ := flatT_ct hf
    rw [hc] at h1
    obtain rfl : _ = c' := by simpa using h1
    rcases h2 with ⟨k, h, _⟩ | ⟨h, _⟩ | ⟨h, _⟩
    · exact .inl ⟨k, h⟩
    · exact .inr (.inl h)
    · exact .inr (.inr h)
  have one : flatT P t = true → (∃ k, (cts P t).getD i .oth = .int k) ∨ (cts P t).getD i .oth = .bool ∨ (cts P t).getD i .oth = .str := fun hf => by
    obtain ⟨c, d, h1, _⟩ := flatT_ct hf
    have : i = 0 := by rw [h1] at hl; simp at hl; omega
    subst this
    rw [h1]
    exact of hf h1
  unfold keyT at hk
  cases hu : P.underlying t with
  | none => simp [hu] at hk
  | some ds =>
    rw [hu] at hk
    cases ds <;> simp only at hk <;> first | (cases hk; done) | skip
    case bool => exact one (by simp [flatT, hu])
    case int k => exact one (by simp [flatT, hu])
    case string => exact one (by simp [flatT, hu])
    case array m e =>
      simp only [Bool.and_eq_true] at hk
      obtain ⟨g1, g2, g3, g4, g5⟩ := hk
      have g2 := Nat.eq_of_beq_eq_true g2
      have h0 := List.all_eq_true.1 g5 i (by simp; omega)
      obtain ⟨c, d, h1, _⟩ := flatT_ct g3
      rw [h1] at h0
      rw [(ctsAt_one h0).1]
      exact of g3 h1
    case struct fs =>
      simp only [Bool.and_eq_true] at hk
      obtain ⟨g1, g2, g3⟩ := hk
      have g2 := Nat.eq_of_beq_eq_true g2
      have hif : i < fs.toList.length := by simp; omega
      have h0 := List.all_eq_true.1 g3 (fs.toList[i], i) (by rw [List.mem_zipIdx_iff_getElem?]; simp [hif])
      simp only [Bool.and_eq_true] at h0
      obtain ⟨c, d, h1, _⟩ := flatT_ct h0.1
      have h2 := h0.2.2.2
      rw [h1] at h2
      rw [(ctsAt_one h2).1]
      exact of h0.1 h1
theorem bits_self {t : TypeId} (hk : keyT P t = true) {x : AV} (hx : TV P t x) (n : Nat) : Instr.sameBits (n + 1) (toV x) (toV x) = true := by
  cases hA : isAgg P t with
  | true =>
    obtain ⟨cs, rfl⟩ := hx.a hA
    have hw : WTs P (cts P t) cs := hx.w
    have : ∀ (l : List AV), (∀ i, i < l.length → Instr.sameBits n (toV (l.getD i .u)) (toV (l.getD i .u)) = true) → ((toVL l).zip (toVL l)).all (fun p => Instr.sameBits n p.1 p.2) = true := by
      intro l
      induction l with
      | nil => intro _; rfl
      | cons a l ih =>
        intro h
        simp only [toVL, List.zip_cons_cons, List.all_cons, Bool.and_eq_true]
        exact ⟨by simpa using h 0 (by simp), ih fun i hi => by simpa using h (i + 1) (by simpa using hi)⟩
    have h2 := this cs fun i hi => bits_flat (hw.2 i hi) (key_cts hk hw.1 i hi) n
    simp only [toV, Instr.sameBits, beq_self_eq_true, Bool.true_and]
    exact h2
  | false =>
    have hw := hx.w
    rw [hx.n hA] at hw
    exact bits_flat (by simpa using hw.2 0 (by simp)) (by have := key_cts hk hw.1 0 (by simp); simpa using this) _
theorem decode_gen (b0 b1 b2 b3 : Nat) (c1 c2 c3 : Bool) : let r : Nat × Nat := (if b0 < 0x80 then (b0, 1)
  else if b0 / 32 == 6 && c1 then
    if (b0 % 32) * 64 + b1 % 64 ≥ 0x80 then ((b0 % 32) * 64 + b1 % 64, 2) else (Utf8.runeError, 1)
  else if b0 / 16 == 14 && c1 && c2 then
    if (b0 % 16) * 4096 + (b1 % 64) * 64 + b2 % 64 ≥ 0x800 && Utf8.valid ((b0 % 16) * 4096 + (b1 % 64) * 64 + b2 % 64 : Nat) then ((b0 % 16) * 4096 + (b1 % 64) * 64 + b2 % 64, 3) else (Utf8.runeError, 1)
  else if b0 / 8 == 30 && c1 && c2 && c3 then
    if (b0 % 8) * 262144 + (b1 % 64) * 4096 + (b2 % 64) * 64 + b3 % 64 ≥ 0x10000 && Utf8.valid ((b0 % 8) * 262144 + (b1 % 64) * 4096 + (b2 % 64) * 64 + b3 % 64 : Nat) then ((b0 % 8) * 262144 + (b1 % 64) * 4096 + (b2 % 64) * 64 + b3 % 64, 4) else (Utf8.runeError, 1)
  else (Utf8.runeError, 1)); r.1 ≤ 1114111 ∧ 0 < r.2 := by
  intro r
  have h1 := Nat.mod_lt b1 (show 0 < 64 by omega)
  have h2 := Nat.mod_lt b2 (show 0 < 64 by omega)
  have h4 := Nat.mod_lt b0 (show 0 < 32 by omega)
  have h5 := Nat.mod_lt b0 (show 0 < 16 by omega)
  have he : Utf8.runeError ≤ 1114111 := by show (65533 : Nat) ≤ 1114111; omega
  show r.1 ≤ 1114111 ∧ 0 < r.2
  have key : ∀ (p : Nat × Nat), r = p → p.1 ≤ 1114111 ∧ 0 < p.2 → r.1 ≤ 1114111 ∧ 0 < r.2 := fun p h1 h2 => h1 ▸ h2
  by_cases g0 : b0 < 0x80
  · exact key (b0, 1) (if_pos g0) ⟨by show b0 ≤ 1114111; omega, Nat.one_pos⟩
  cases g1 : (b0 / 32 == 6 && c1) with
  | true =>
    by_cases g2 : (b0 % 32) * 64 + b1 % 64 ≥ 0x80
    · exact key _ ((if_neg g0).trans ((if_pos g1).trans (if_pos g2))) ⟨by show (b0 % 32) * 64 + b1 % 64 ≤ 1114111; omega, by show 0 < 2; omega⟩
    · exact key _ ((if_neg g0).trans ((if_pos g1).trans (if_neg g2))) ⟨he, Nat.one_pos⟩
  | false =>
    have g1' : ¬ (b0 / 32 == 6 && c1) = true := by rw [g1]; exact Bool.false_ne_true
    cases g2 : (b0 / 16 == 14 && c1 && c2) with
    | true =>
      cases g3 : (decide ((b0 % 16) * 4096 + (b1 % 64) * 64 + b2 % 64 ≥ 0x800) && Utf8.valid ((b0 % 16) * 4096 + (b1 % 64) * 64 + b2 % 64 : Nat)) with
      | true => exact key _ ((if_neg g0).trans ((if_neg g1').trans ((if_pos g2).trans (if_pos g3)))) ⟨by show (b0 % 16) * 4096 + (b1 % 64) * 64 + b2 % 64 ≤ 1114111; omega, by show 0 < 3; omega⟩
      | false => exact key _ ((if_neg g0).trans ((if_neg g1').trans ((if_pos g2).trans (if_neg (by rw [g3]; exact Bool.false_ne_true))))) ⟨he, Nat.one_pos⟩
    | false =>
      have g2' : ¬ (b0 / 16 == 14 && c1 && c2) = true := by rw [g2]; exact Bool.false_ne_true
      cases g3 : (b0 / 8 == 30 && c1 && c2 && c3) with
      | true =>
        cases g4 : (decide ((b0 % 8) * 262144 + (b1 % 64) * 4096 + (b2 % 64) * 64 + b3 % 64 ≥ 0x10000) && Utf8.valid ((b0 % 8) * 262144 + (b1 % 64) * 4096 + (b2 % 64) * 64 + b3 % 64 : Nat)) with
        | true =>
          refine key _ ((if_neg g0).trans ((if_neg g1').trans ((if_neg g2').trans ((if_pos g3).trans (if_pos g4))))) ⟨?_, by show 0 < 4; omega⟩
          show (b0 % 8) * 262144 + (b1 % 64) * 4096 + (b2 % 64) * 64 + b3 % 64 ≤ 1114111
          have g5 := (Bool.and_eq_true_iff.1 g4).2
          unfold Utf8.valid at g5
          simp only [Bool.and_eq_true, Bool.or_eq_true, decide_eq_true_eq] at g5
          omega
        | false => exact key _ ((if_neg g0).trans ((if_neg g1').trans ((if_neg g2').trans ((if_pos g3).trans (if_neg (by rw [g4]; exact Bool.false_ne_true)))))) ⟨he, Nat.one_pos⟩
      | false => exact key _ ((if_neg g0).trans ((if_neg g1').trans ((if_neg g2').trans (if_neg (by rw [g3]; exact Bool.false_ne_true))))) ⟨he, Nat.one_pos⟩
theorem decode_bounds (s : ByteArray) (i : Nat) : (Utf8.decode s i).1 ≤ 1114111 ∧ 0 < (Utf8.decode s i).2 :=
  decode_gen (s.get! (i + 0)).toNat (s.get! (i + 1)).toNat (s.get! (i + 2)).toNat (s.get! (i + 3)).toNat (decide (i + 1 < s.size) && (s.get! (i + 1)).toNat / 64 == 2) (decide (i + 2 < s.size) && (s.get! (i + 2)).toNat / 64 == 2) (decide (i + 3 < s.size) && (s.get! (i + 3)).toNat / 64 == 2)
end Go.Ev

set_option linter.unusedVariables false
set_option linter.unusedSimpArgs false
namespace Go.Ev
open Go Go.RowKit

variable {P : Program} {w0 : Base} {X D : Nat → Nat → Prop} {R : Nat → Option (Nat × Nat × Nat)} {st : St} {a : Act} {w : World}
variable {ro : Option Nat} {n : Nat} {o : Oper} {next : Act → World → Prop} {Q : Exit → Act → World → Prop} {ρ : Type} {K : Eff → Option ρ} {r : ρ} {site : Nat} {S : Spec} {RO : Nat → Bool}

theorem app_at {l1 l2 : List AV} {v1 v2 : List Value} (hl : v1.length = l1.length) (h1 : ∀ k, k < l1.length → VR P D R w (l1.getD k .u) (v1.getD k undef)) (h2 : ∀ k, k < l2.length → VR P D R w (l2.getD k .u) (v2.getD k undef)) :
    ∀ k, k < (l1 ++ l2).length → VR P D R w ((l1 ++ l2).getD k .u) ((v1 ++ v2).getD k undef) := by
  intro k hk
  simp only [List.length_append] at hk
  by_cases h : k < l1.length
  · have := h1 k h
    simpa [List.getD_eq_getElem?_getD, List.getElem?_append_left h, List.getElem?_append_left (show k < v1.length by omega)] using this
  · have := h2 (k - l1.length) (by omega)
    simpa [List.getD_eq_getElem?_getD, List.getElem?_append_right (show l1.length ≤ k by omega), List.getElem?_append_right (show v1.length ≤ k by omega), hl] using this
theorem numOf_spec (h : SR P w0 X D R st a w) {d : Int} {y : Option Operand} {k : IntKind} {l : Int} (hl : numOf st d y = .i k l) : (y.map a.eval = none ∧ l = d) ∨ ∃ k, y.map a.eval = some (.int k l) := by
  cases y with
  | none => simp only [numOf, AV.i.injEq] at hl; exact .inl ⟨rfl, hl.2.symm⟩
  | some y =>
    have := h.val y
    simp only [numOf] at hl
    rw [hl] at this
    exact .inr ⟨k, by rw [Option.map_some, this.int_inv.1]⟩
theorem run_bounds {isSlice : Bool} {len cap : Nat} {lo hi : Option Value} {l q : Int} (hlo : (lo = none ∧ l = 0) ∨ ∃ k, lo = some (.int k l)) (hhi : (hi = none ∧ q = (len : Int)) ∨ ∃ k, hi = some (.int k q))
    (h0 : 0 ≤ l) (h1 : l ≤ q) (h2 : q ≤ (len : Int)) (hc : len ≤ cap) : (Instr.sliceBounds isSlice len cap lo hi none).run P w = .ok (l.toNat, q.toNat, cap) w := by
  have eq : (q.toNat : Int) = q := Int.toNat_of_nonneg (by omega)
  have hq0 : 0 ≤ q := by omega
  have hqc : q ≤ (cap : Int) := by omega
  rcases hlo with ⟨rfl, rfl⟩ | ⟨k, rfl⟩ <;> rcases hhi with ⟨rfl, rfl⟩ | ⟨k', rfl⟩ <;>
    simp [Instr.sliceBounds, Instr.sliceBound, asIntOf, h0, h1, hq0, hqc, eq]

theorem minmax_sound {mx : Bool} {c : Call} (h : SR P w0 X D R st a w) (hb : ∀ x, o.dst = some x → x < st.nt) (hn : After P w0 X D R st a w o site K r next) (hd : ∀ c, o.op ≠ .defer c)
    (hop : o.op = .call c) (hc : c.callee = .builtin (if mx then .max else .min))
    (hresb : ∀ b, c.callee = .builtin b → ∃ cs, (resolve a.eval c o.type).run P w = .ok { target := .builtin b c.argTypes o.type cs, args := c.args.map a.eval } w)
    (he : (match c.args.toList.map (val st) with
      | x :: r => match best (if mx then bmax else bmin) x r with
        | some v => K ⟨v, none⟩
        | none => none
      | [] => none) = some r) : o.wpIn (FW ro) n P a w next Q := by
  have hargs := args_at h c.args.toList
  split at he <;> first | (cases he; done) | skip
  rename_i x l hl
  split at he <;> first | (cases he; done) | skip
  rename_i v hbest
  have hlen : c.args.toList.length = l.length + 1 := by have := congrArg List.length hl; simpa using this
  match hcl : c.args.toList, hlen with
  | y :: ys, hlen =>
    rw [hcl] at hl hargs
    simp only [List.map_cons, List.cons.injEq] at hl
    obtain ⟨e1, e2⟩ := hl
    obtain ⟨u, g1, g2⟩ := best_sound (P := P) (D := D) (R := R) (w := w) (mx := mx) (lv := ys.map a.eval) hbest (e1 ▸ h.val y) (by simpa using hlen) (fun k hk => by
      have := hargs (k + 1) (by simp at hlen ⊢; omega)
      rw [← e2]
      simpa using this)
    refine op_value h hb hn hd (v' := u) ?_ g2 he
    obtain ⟨csb, hrb⟩ := hresb _ hc
    simp only [execOp, hop, Sem.run_bind, hrb, Result.andThen_ok, invoke]
    have ht : (c.args.map a.eval).toList = a.eval y :: ys.map a.eval := by simp [hcl]
    cases mx
    · simp only [Bool.false_eq_true, if_false] at g1 ⊢
      simp only [builtin, Builtin.min_, ht, Sem.run_bind, g1, Result.andThen_ok, Sem.run_pure]
    · simp only [if_true] at g1 ⊢
      simp only [builtin, Builtin.max_, ht, Sem.run_bind, g1, Result.andThen_ok, Sem.run_pure]

/-- append behind nothing. -/
theorem grown_sound (h : SR P w0 X D R st a w) (hf : R site = none) (hb : ∀ x, o.dst = some x → x < st.nt) (hn : After P w0 X D R st a w o site K r next) (hd : ∀ c, o.op ≠ .defer c)
    {e t t' : TypeId} {x y : AV} {xv yv : Value} (hu : P.underlying t = some (.slice e)) (hx : x = .nl ∨ x = .e0 true) (hxv : VR P D R w x xv) (hyv : VR P D R w y yv)
    (hr : ∀ v w', (Builtin.append_ #[t, t'] o.type #[xv, yv]).run P w = .ok v w' → (execOp a.eval o).run P w = .ok (.value v) w')
    (he : grown P site e t t' x y K = some r) : o.wpIn (FW ro) n P a w next Q := by
  unfold grown at he
  split at he <;> first | (cases he; done) | skip
  rename_i e' es
  obtain ⟨hc, he2⟩ := cond_some he
  clear he
  simp only [Bool.and_eq_true] at hc
  obtain ⟨ht, hee, ho⟩ := hc
  obtain rfl := Nat.eq_of_beq_eq_true ht
  obtain rfl := Nat.eq_of_beq_eq_true hee
  cases hin : P.info? e with
  | none => rw [hin] at he2; cases he2
  | some i =>
    rw [hin] at he2
    obtain ⟨hz1, he3⟩ := cond_some he2
    obtain ⟨hz0, hzz⟩ := Bool.and_eq_true_iff.1 hz1
    obtain ⟨hby, he4⟩ := cond_some he3
    have hby : es.length * i.bytes ≤ 140737488355328 := Nat.le_of_ble_eq_true hby
    have key : ∃ xa, xv = .slice xa 0 0 := by
      rcases hx with rfl | rfl
      · cases hxv; exact ⟨_, rfl⟩
      · cases hxv with
        | @e0 _ xa c hc =>
          obtain rfl := hc rfl
          exact ⟨_, rfl⟩
    obtain ⟨xa, rfl⟩ := key
    obtain ⟨D', R', v', w', q1, q2, q3, q4⟩ := grow_nil h hf (ty := o.type) hu hin ho hz0 hzz hby hyv (xa := xa)
    exact wpIn_value hd (hr _ _ q1) (hn D' R' ⟨_, some (site, .fr e)⟩ _ _ (q2.put hb q3) q4 he4)

theorem slice_rs (h : SR P w0 X D R st a w) (hb : ∀ x, o.dst = some x → x < st.nt) (hn : After P w0 X D R st a w o site K r next) (hd : ∀ c, o.op ≠ .defer c) {t e : TypeId} {x : Operand} {lo hi : Option Operand} {es : List (List AV)} {l q : Int}
    (hop : o.op = .slice t x lo hi none) (hu : P.underlying t = some (.slice e)) (hz : 0 < P.cellsOf e) (hlo : (lo.map a.eval = none ∧ l = 0) ∨ ∃ k, lo.map a.eval = some (.int k l)) (hhi : (hi.map a.eval = none ∧ q = (es.length : Int)) ∨ ∃ k, hi.map a.eval = some (.int k q))
    (h0 : 0 ≤ l) (h1 : l ≤ q) (h2 : q ≤ (es.length : Int)) (hx : VR P D R w (.rs e es) (a.eval x)) (he2 : K ⟨.rs e ((es.take q.toNat).drop l.toNat), none⟩ = some r) : o.wpIn (FW ro) n P a w next Q := by
  generalize hax : a.eval x = xv at hx
  have main : ∀ (ad : Option Addr) (c : Nat), es.length ≤ c → (Instr.sliceAt t (.slice ad es.length c) (lo.map a.eval) (hi.map a.eval) none).run P w =
      .ok (.slice (if c = l.toNat then ad else ad.map (·.add (l.toNat * P.cellsOf e))) (q.toNat - l.toNat) (c - l.toNat)) w := by
    intro ad c hc
    simp only [Instr.sliceAt, Sem.run_bind, run_underlying' hu, Result.andThen_ok, Instr.slice]
    rw [run_bounds hlo hhi h0 h1 h2 hc]
    simp only [Result.andThen_ok, run_sizeOf' hz, Sem.run_pure]
  have hlen : ((es.take q.toNat).drop l.toNat).length = q.toNat - l.toNat := by simp; omega
  cases hx with
  | @rs0 _ ad c hadc =>
    have hq0 : q.toNat - l.toNat = 0 := by simp at h2; omega
    refine op_value h hb hn hd (v' := .slice (if c = l.toNat then ad else ad.map (·.add (l.toNat * P.cellsOf e))) 0 (c - l.toNat)) ?_ (by
      have : ((([] : List (List AV)).take q.toNat).drop l.toNat) = [] := by simp
      rw [this]; exact .rs0 fun h0 => by
        cases ad with
        | none => have := hadc rfl; omega
        | some ad => split at h0 <;> cases h0) he2
    have := main ad c (by simp)
    simp only [execOp, hop, Sem.run_bind, hax, Option.map_none]
    simp only [List.length_nil] at this
    rw [this, hq0]
    rfl
  | @rs _ _ b o' c f g1 gz g2 g3 g4 g5 g6 g7 =>
    refine op_value h hb hn hd (v' := .slice (if c = l.toNat then some ⟨b, o', none⟩ else (some ⟨b, o', none⟩ : Option Addr).map (·.add (l.toNat * P.cellsOf e))) (q.toNat - l.toNat) (c - l.toNat)) ?_ ?_ he2
    · simp only [execOp, hop, Sem.run_bind, hax, Option.map_none, main _ c g2]
      rfl
    · by_cases hemp : (es.take q.toNat).drop l.toNat = []
      · rw [hemp]
        have : q.toNat - l.toNat = 0 := by rw [← hlen, hemp]; rfl
        rw [this]
        exact .rs0 fun h0 => by split at h0 <;> cases h0
      · have hpos : 0 < q.toNat - l.toNat := by
          rw [← hlen]
          exact List.length_pos_iff.2 hemp
        have hne : ¬ c = l.toNat := by omega
        simp only [hne, if_false, Option.map_some, add_plain']
        rw [← hlen]
        obtain ⟨w1, w2, w3⟩ : es.length ≤ 9223372036854775807 ∧ (∀ x, x ∈ es → x.length = (cts P e).length) ∧ (∀ x, x ∈ es → ∀ j, j < x.length → WT P ((cts P e).getD j .oth) (x.getD j .u)) := by
          cases g5 with
          | sl a b c => exact ⟨a, b, c⟩
        have hsub : ∀ x, x ∈ (es.take q.toNat).drop l.toNat → x ∈ es := fun x hx => List.mem_of_mem_take (List.mem_of_mem_drop hx)
        have hget : ∀ i, i < q.toNat - l.toNat → ((es.take q.toNat).drop l.toNat).getD i [] = es.getD (l.toNat + i) [] := fun i hi => by
          simp [List.getD_eq_getElem?_getD, List.getElem?_take, show l.toNat + i < q.toNat by omega]
        refine .rs (f := fun i j => f (l.toNat + i) j) hemp gz (by rw [hlen]; omega) g3 (fun i j hi hj => by
            rw [hlen] at hi
            have := g4 (l.toNat + i) j (by omega) hj
            rw [Nat.add_mul] at this
            rw [show o' + l.toNat * P.cellsOf e + (i * P.cellsOf e + j) = o' + (l.toNat * P.cellsOf e + i * P.cellsOf e + j) by omega]
            exact this) (.sl (by rw [hlen]; omega) (fun x hx => w2 x (hsub x hx)) (fun x hx => w3 x (hsub x hx))) (fun i j hi hj => ?_) (fun i j hi hj => ?_)
        · rw [hlen] at hi
          have := g6 (l.toNat + i) j (by omega) hj
          rw [Nat.add_mul] at this
          rw [← this]
          congr 2
          omega
        · rw [hlen] at hi
          rw [hget i hi]
          exact g7 (l.toNat + i) j (by omega) hj
theorem one_of_fit {all : List CT} {v x : AV} {v' : Value} (h : fitCs all [v] = some [x]) (hv : VR P D R w v v') : WTs P all [x] ∧ VR P D R w x v' := by
  obtain ⟨g1, _, g3, _⟩ := fitCs_sound (P := P) (D := D) (R := R) (w := w) (cv := [v']) h rfl (fun k hk => by
    have : k = 0 := by simpa using hk
    subst this
    simpa using hv)
  exact ⟨g1, by simpa using g3 0 (by simp)⟩
theorem fitC_one {c : CT} {v x : AV} (h : fitC c v = some x) : cellsOf x = [x] := by
  unfold fitC at h
  split at h <;> first | (cases h; done) | (cases h; rfl) | (cases hk : (_ : Bool) <;> simp_all; done) | skip
  all_goals (obtain ⟨_, h⟩ := cond_some h; cases h; rfl)
theorem fitCs_one {all : List CT} {v x : AV} (h : fitCs all [v] = some [x]) : cellsOf x = [x] := by
  cases all with
  | nil => simp [fitCs] at h
  | cons c r =>
    simp only [fitCs] at h
    split at h <;> first | (cases h; done) | skip
    rename_i a' y' h1 h2
    simp only [Option.some.injEq, List.cons.injEq] at h
    rw [← h.1]
    exact fitC_one h1
theorem asT_sound {t : TypeId} {v x : AV} {v' : Value} (h : asT P t v = some x) (hv : VR P D R w v v') : TV P t x ∧ VR P D R w x v' := by
  unfold asT at h
  split at h <;> first | (cases h; done) | skip
  · rename_i cs hA
    split at h <;> first | (cases h; done) | skip
    rename_i cs' hf
    cases h
    obtain ⟨cv, rfl, q1, q2⟩ := hv.agg_inv
    obtain ⟨g1, g2, g3, _⟩ := fitCs_sound (P := P) (D := D) (R := R) (w := w) (cv := cv.toList) hf (by simpa using q1) (fun k hk => by
      have := q2 k hk
      simpa [Array.getD_eq_getD_getElem?, List.getD_eq_getElem?_getD] using this)
    refine ⟨⟨g1, fun _ => ⟨_, rfl⟩, fun h => (by rw [hA] at h; cases h)⟩, .agg (by rw [g2]; exact q1) fun k hk => ?_⟩
    have := g3 k hk
    simpa [Array.getD_eq_getD_getElem?, List.getD_eq_getElem?_getD] using this
  · rename_i hA _
    split at h <;> first | (cases h; done) | skip
    rename_i x' hf
    cases h
    obtain ⟨g1, g2⟩ := one_of_fit hf hv
    have hc := fitCs_one hf
    exact ⟨⟨by rw [hc]; exact g1, fun h => (by rw [hA] at h; cases h), fun _ => hc⟩, g2⟩
theorem zeroT_sound {t : TypeId} {x : AV} (h : zeroT P t = some x) : ∃ i z, P.info? t = some i ∧ i.zero = some z ∧ TV P t x ∧ VR P D R w x z := by
  unfold zeroT at h
  have info : ∀ {z : Value}, (P.info? t).bind (·.zero) = some z → ∃ i, P.info? t = some i ∧ i.zero = some z := fun {z} hz => by
    cases hi : P.info? t with
    | none => simp [hi] at hz
    | some i => exact ⟨i, rfl, by simpa [hi] using hz⟩
  split at h <;> first | (cases h; done) | skip
  · rename_i cv hA hz
    obtain ⟨i, hi1, hi2⟩ := info hz
    split at h <;> first | (cases h; done) | skip
    rename_i cs hf
    cases h
    obtain ⟨g1, g2, g3, _⟩ := fitCs_sound (P := P) (D := D) (R := R) (w := w) (cv := cv.toList) hf (by simp) (fun k hk => by
      simp only [List.length_map] at hk
      rw [getD_map _ _ _ Go.undef _ hk]
      exact VR_ofC _)
    refine ⟨i, _, hi1, hi2, ⟨g1, fun _ => ⟨_, rfl⟩, fun h => (by rw [hA] at h; cases h)⟩, .agg (by rw [g2]; simp) fun k hk => ?_⟩
    have := g3 k hk
    simpa [Array.getD_eq_getD_getElem?, List.getD_eq_getElem?_getD] using this
  · rename_i z _ hA hz
    obtain ⟨i, hi1, hi2⟩ := info hz
    split at h <;> first | (cases h; done) | skip
    rename_i x' hf
    cases h
    obtain ⟨g1, g2⟩ := one_of_fit (P := P) (D := D) (R := R) (w := w) hf (VR_ofC z)
    have hc := fitCs_one hf
    exact ⟨i, z, hi1, hi2, ⟨by rw [hc]; exact g1, fun h => (by rw [hA] at h; cases h), fun _ => hc⟩, g2⟩
theorem projT_TV {t : TypeId} {x : AV} (h : TV P t x) : projT P t x = x := by
  unfold projT
  cases hA : isAgg P t with
  | true =>
    obtain ⟨cs, rfl⟩ := h.a hA
    have hw : WTs P (cts P t) cs := h.w
    simp only [cond_true, AV.agg.injEq, cellsOf]
    apply List.ext_getElem
    · rw [projs_length, hw.1]
    · intro j h1 h2
      have h3 := projs_getD (cts P t) cs 0 j (by rw [← hw.1]; exact h2)
      rw [Nat.zero_add, proj_WT (hw.2 j h2)] at h3
      simpa [List.getD_eq_getElem?_getD, h1, h2] using h3
  | false =>
    have hw := h.w
    rw [h.n hA] at hw
    have := hw.2 0 (by simp)
    simp only [cond_false]
    have e : (cts P t).headD .oth = (cts P t).getD 0 .oth := by cases (cts P t) <;> simp
    rw [e]
    exact proj_WT (by simpa using this)
theorem plain_TV {t : TypeId} (hk : keyT P t = true) {x : AV} (h : TV P t x) : plain x = true := by
  have pc : ∀ {c : CT} {x : AV}, WT P c x → (∃ k, c = .int k) ∨ c = .bool ∨ c = .str → plain x = true := fun hW hc => by
    cases hW with
    | int h1 h2 => simp [plain, h1, h2]
    | bool => rfl
    | str h1 => simp [plain, h1]
    | sl => simp at hc
    | oth => simp at hc
  have flat : ∀ {t : TypeId} {c : CT}, flatT P t = true → ctsEq [c] (cts P t) = true → (∃ k, c = .int k) ∨ c = .bool ∨ c = .str := fun hf hc => by
    obtain ⟨c', d, h1, _, _, h2⟩ := flatT_ct hf
    rw [h1] at hc
    have := ctsEq_eq hc
    simp only [List.cons.injEq, and_true] at this
    rw [this]
    rcases h2 with ⟨k, h, _⟩ | ⟨h, _⟩ | ⟨h, _⟩
    · exact .inl ⟨k, h⟩
    · exact .inr (.inl h)
    · exact .inr (.inr h)
  have one : flatT P t = true → plain x = true := fun hf => by
    obtain ⟨c, d, h1, _, hA, h2⟩ := flatT_ct hf
    have hw := h.w
    rw [h.n hA, h1] at hw
    refine pc (by simpa using hw.2 0 (by simp)) ?_
    rcases h2 with ⟨k, h, _⟩ | ⟨h, _⟩ | ⟨h, _⟩
    · exact .inl ⟨k, h⟩
    · exact .inr (.inl h)
    · exact .inr (.inr h)
  have all : ∀ {cs : List AV}, WTs P (cts P t) cs → (∀ i, i < cs.length → (∃ k, (cts P t).getD i .oth = .int k) ∨ (cts P t).getD i .oth = .bool ∨ (cts P t).getD i .oth = .str) → plainL cs = true := fun {cs} hw hc => by
    have : ∀ (l : List AV), (∀ i, i < l.length → plain (l.getD i .u) = true) → plainL l = true := by
      intro l
      induction l with
      | nil => intro _; rfl
      | cons a l ih =>
        intro hl
        simp only [plainL, Bool.and_eq_true]
        exact ⟨by simpa using hl 0 (by simp), ih fun i hi => by simpa using hl (i + 1) (by simpa using hi)⟩
    exact this cs fun i hi => pc (hw.2 i hi) (hc i hi)
  unfold keyT at hk
  cases hu : P.underlying t with
  | none => simp [hu] at hk
  | some ds =>
    rw [hu] at hk
    cases ds <;> simp only at hk <;> first | (cases hk; done) | skip
    case bool => exact one (by simp [flatT, hu])
    case int k => exact one (by simp [flatT, hu])
    case string => exact one (by simp [flatT, hu])
    case array m e =>
      simp only [Bool.and_eq_true] at hk
      obtain ⟨g1, g2, g3, g4, g5⟩ := hk
      have hA : isAgg P t = true := by simp [isAgg, hu]
      obtain ⟨xs, rfl⟩ := h.a hA
      have hw : WTs P (cts P t) xs := h.w
      have g2 := Nat.eq_of_beq_eq_true g2
      refine all hw fun i hi => ?_
      have h0 := List.all_eq_true.1 g5 i (by have := hw.1; simp; omega)
      obtain ⟨c, d, h1, _⟩ := flatT_ct g3
      rw [h1] at h0
      obtain ⟨g6, _⟩ := ctsAt_one h0
      rw [g6]
      exact flat g3 (by rw [h1]; simp [ctsEq, ctEq]; cases c <;> simp [ctEq])
    case struct fs =>
      simp only [Bool.and_eq_true] at hk
      obtain ⟨g1, g2, g3⟩ := hk
      have hA : isAgg P t = true := by simp [isAgg, hu]
      obtain ⟨xs, rfl⟩ := h.a hA
      have hw : WTs P (cts P t) xs := h.w
      have g2 := Nat.eq_of_beq_eq_true g2
      refine all hw fun i hi => ?_
      have hif : i < fs.toList.length := by have := hw.1; simp; omega
      have h0 := List.all_eq_true.1 g3 (fs.toList[i], i) (by rw [List.mem_zipIdx_iff_getElem?]; simp [hif])
      simp only [Bool.and_eq_true] at h0
      obtain ⟨c, d, h1, _⟩ := flatT_ct h0.1
      have h2 := h0.2.2.2
      rw [h1] at h2
      obtain ⟨g6, _⟩ := ctsAt_one h2
      rw [g6]
      exact flat h0.1 (by rw [h1]; simp [ctsEq, ctEq]; cases c <;> simp [ctEq])
theorem toV_plain {x : AV} {v : Value} (hp : plain x = true) (hv : VR P D R w x v) : v = toV x := VR_plain_all.1 x hp v hv

/-- **One operation.** -/
theorem evOp_sound (hs : SpecOK P S) (h : SR P w0 X D R st a w) (hf : R site = none) (hb : ∀ x, o.dst = some x → x < st.nt) (he : evOp P S RO site o st K = some r)
    (hn : After P w0 X D R st a w o site K r next) : o.wpIn (FW ro) n P a w next Q := by
  unfold evOp at he
  have hd : ∀ c, o.op ≠ .defer c := by intro c hc; simp [hc] at he
  cases hop : o.op <;> simp only [hop] at he <;> try (cases he; done)
  case move x => exact op_value h hb hn hd (by simp [execOp, hop]) (h.val x) he
  case assign x => exact op_value h hb hn hd (by simp [execOp, hop]) (h.val x) he
  case pick c x y =>
    have hc := h.val c
    have hx := h.val x
    have hy := h.val y
    generalize val st c = vc at he hc
    generalize val st x = vx at he hx
    generalize val st y = vy at he hy
    split at he
    · rename_i t
      have ec := hc.bool_inv
      have hrun : (execOp a.eval o).run P w = .ok (.value (if t then a.eval x else a.eval y)) w := by simp [execOp, hop, ec, run_asBool]
      split at he
      · rename_i p q
        have e1 := hx.bool_inv
        have e2 := hy.bool_inv
        refine op_value h hb hn hd hrun ?_ he
        cases t
        · simpa [e2] using VR.b
        · simpa [e1] using VR.b
      · cases t
        · exact op_value h hb hn hd (by simpa using hrun) hy he
        · exact op_value h hb hn hd (by simpa using hrun) hx he
    · cases he
  case unOp op t x =>
    have hx := h.val x
    cases op <;> simp only at he <;> first | (cases he; done) | skip
    all_goals (split at he <;> first | (cases he; done) | skip)
    · rename_i hv
      rw [hv] at hx
      obtain ⟨e, _⟩ := hx.int_inv
      refine op_value h hb hn hd (v' := .int _ (IntKind.wrap _ (0 - _))) ?_ (.i (inR_wrap _ _).1 (inR_wrap _ _).2) he
      simp only [execOp, hop, e]
      simp [Op.unary, Op.intArith]
    · rename_i hv
      rw [hv] at hx
      have e := hx.bool_inv
      exact op_value h hb hn hd (by simp only [execOp, hop, e]; simp [Op.unary]) .b he
  case binOp op t x y yt =>
    obtain ⟨v, v', h1, h2, h3⟩ := bin_sound (ox := x) (oy := y) (h.val x) (h.val y) he
    refine op_value h hb hn hd (v' := v') ?_ h2 h3
    simp only [execOp, hop, Sem.run_bind, Sem.run_pure] at h1 ⊢
    rw [h1]
    rfl
  case convert src dst x =>
    have hx := h.val x
    split at he <;> first | (cases he; done) | skip
    · rename_i hu1 hu2 hv
      rw [hv] at hx
      obtain ⟨e, _⟩ := hx.int_inv
      refine op_value h hb hn hd (v' := .int _ (IntKind.wrap _ _)) ?_ (.i (inR_wrap _ _).1 (inR_wrap _ _).2) he
      simp only [execOp, hop, e]
      simp [Go.convert, run_underlying' hu1, run_underlying' hu2, Conv.intToInt]
    · rename_i hu1 hu2 hv
      rw [hv] at hx
      obtain ⟨e, hsz⟩ := hx.str_inv
      refine op_value h hb hn hd ?_ (.s hsz) he
      simp only [execOp, hop, e]
      simp [Go.convert, run_underlying' hu1, run_underlying' hu2]
  case extract x j =>
    have hx := h.val x
    split at he <;> first | (cases he; done) | skip
    rename_i vs hv
    rw [hv] at hx
    split at he <;> first | (cases he; done) | skip
    rename_i v hj
    generalize hax : a.eval x = ax at hx
    cases hx with
    | @tup cs cv h1 h2 =>
      have hlt : j < vs.length := (List.getElem?_eq_some_iff.1 hj).1
      have hlt' : j < cv.size := by omega
      refine op_value h hb hn hd (v' := cv[j]) ?_ ?_ he
      · simp only [execOp, hop, hax]
        simp [Instr.extract, hlt']
      · have := h2 j hlt
        simpa [List.getD_eq_getElem?_getD, Array.getD_eq_getD_getElem?, hj, hlt'] using this
  case field t x f =>
    have hx := h.val x
    split at he <;> first | (cases he; done) | skip
    rename_i fs cs hu hv
    rw [hv] at hx
    split at he <;> first | (cases he; done) | skip
    rename_i fd hfd
    split at he <;> first | (cases he; done) | skip
    rename_i v hp
    obtain ⟨cv, e, h1, h2⟩ := hx.agg_inv
    obtain ⟨u, g1, g2⟩ := partV_sound h1 h2 hp
    refine op_value h hb hn hd (v' := u) ?_ g2 he
    simp only [execOp, hop, e]
    simp [Instr.field, run_underlying' hu, hfd, asAgg, g1]
  case build t parts =>
    split at he <;> first | (cases he; done) | skip
    rename_i fs z hu hz
    split at he <;> first | (cases he; done) | skip
    rename_i cs hfill
    split at he <;> first | (cases he; done) | skip
    rename_i cs' hfit
    obtain ⟨hinfo, he⟩ := cond_some he
    obtain ⟨i, zv, z1, z2, z3, z4, z5⟩ := zeroOf_sound (P := P) (D := D) (R := R) (w := w) hz
    obtain ⟨cv, g1, g2, g3⟩ := fill_sound (P := P) (D := D) (R := R) (w := w) (pc := fun i => (fs[i]?).map fun f => (f.offset, P.cellsOf f.type)) (pv := parts.toList.map fun p => (p.1, a.eval p.2))
      (fun i x hx => by
        simp only [place] at hx
        cases hfi : fs[i]? with
        | none => simp [hfi] at hx
        | some f => simp [hfi] at hx; subst hx; simp)
      hfill z4 z5 (by simp) (fun k hk => by
        simp only [List.length_map] at hk
        rw [getD_map _ _ _ (0, .const Go.undef) _ hk, getD_map _ _ _ (0, .const Go.undef) _ hk]
        exact ⟨rfl, h.val _⟩)
    obtain ⟨f1, f2, f3, f4⟩ := fitCs_sound (P := P) (D := D) (R := R) (w := w) (cv := cv.toList) hfit (by simpa using g2) (fun k hk => by
      have := g3 k hk
      simpa [Array.getD_eq_getD_getElem?, List.getD_eq_getElem?_getD] using this)
    refine op_value h hb hn hd (v' := .agg cv) ?_ (.agg (by rw [f2]; exact g2) (fun k hk => by
      have := f3 k hk
      simpa [Array.getD_eq_getD_getElem?, List.getD_eq_getElem?_getD] using this)) he
    have hm : (fs.mapM fun f => (do pure (f.offset, ← sizeOf f.type) : Sem (Nat × Nat))).run P w = .ok (fs.map fun f => (f.offset, P.cellsOf f.type)) w := by
      rw [Array.mapM_eq_mapM_toList]
      have : ∀ l : List Field, l.all (fun f => (P.info? f.type).isSome) = true → (l.mapM fun f => (do pure (f.offset, ← sizeOf f.type) : Sem (Nat × Nat))).run P w = .ok (l.map fun f => (f.offset, P.cellsOf f.type)) w := by
        intro l
        induction l with
        | nil => intro _; simp
        | cons f l ih =>
          intro hl
          simp only [List.all_cons, Bool.and_eq_true] at hl
          obtain ⟨i, hi⟩ := Option.isSome_iff_exists.1 hl.1
          have e1 : (sizeOf f.type).run P w = .ok (P.cellsOf f.type) w := by simp [sizeOf, typeInfo, hi, Program.cellsOf]
          simp only [List.mapM_cons, Sem.run_bind, e1, Result.andThen_ok, Sem.run_pure, ih hl.2, List.map_cons]
      simp only [Sem.run_map, this _ hinfo, Result.andThen_ok]
      congr 1
      apply Array.ext'
      simp
    have hpl : (fun (i : Nat) => (fs.map fun f => (f.offset, P.cellsOf f.type))[i]?) = fun (i : Nat) => (fs[i]?).map fun (f : Field) => (f.offset, P.cellsOf f.type) := by
      funext i; simp
    simp only [execOp, hop, Sem.run_bind, Sem.run_pure]
    simp only [Instr.build, Sem.run_bind, zeroValue, typeInfo, run_program, Result.andThen_ok, z1, z2, Sem.run_pure, run_underlying' hu, hm]
    have : (parts.map fun x => match x with | (i, x) => (i, a.eval x)).toList = parts.toList.map fun p => (p.1, a.eval p.2) := by simp
    rw [this, hpl, g1]
    simp
  case fieldAddr t x f =>
    have hx := h.val x
    split at he <;> first | (cases he; done) | skip
    rename_i fs hu
    generalize val st x = ax at he hx
    split at he <;> first | (cases he; done) | skip
    · rename_i fd id i j hfd
      cases hz : Nat.beq (P.cellsOf fd.type) 0 with
      | true => rw [hz] at he; cases he
      | false =>
        rw [hz] at he
        have hz' : 0 < P.cellsOf fd.type := by
          rcases Nat.eq_zero_or_pos (P.cellsOf fd.type) with h | h
          · rw [h] at hz; cases hz
          · exact h
        generalize hax : a.eval x = xv at hx
        cases hx with
        | @p _ _ _ b sz hR =>
          refine op_value h hb hn hd ?_ (.p (i := i) (j := j + fd.offset) hR) he
          simp only [execOp, hop, hax]
          simp [Instr.fieldAt, run_underlying' hu, hfd, Instr.sureAddr, run_fieldPlace hz', Nat.add_assoc]
    · rename_i fd all cs j hfd
      cases hz : Nat.beq (P.cellsOf fd.type) 0 with
      | true => rw [hz] at he; cases he
      | false =>
        rw [hz] at he
        have hz' : 0 < P.cellsOf fd.type := by
          rcases Nat.eq_zero_or_pos (P.cellsOf fd.type) with h | h
          · rw [h] at hz; cases hz
          · exact h
        generalize hax : a.eval x = xv at hx
        cases hx with
        | @rp _ _ _ b o' f' g1 g2 g3 g4 g5 =>
          refine op_value h hb hn hd ?_ (.rp (j := j + fd.offset) g1 g2 g3 g4 g5) he
          simp only [execOp, hop, hax]
          simp [Instr.fieldAt, run_underlying' hu, hfd, Instr.sureAddr, run_fieldPlace hz', Nat.add_assoc]
  case indexAddr t x ix =>
    have hx := h.val x
    have hi := h.val ix
    split at he <;> first | (cases he; done) | skip
    · rename_i e e' es k q hu hv1 hv2
      rw [hv1] at hx; rw [hv2] at hi
      obtain ⟨hc, he2⟩ := cond_some he
      simp only [Bool.and_eq_true] at hc
      have := Nat.eq_of_beq_eq_true hc.1
      subst this
      obtain ⟨b1, b2, b3⟩ := inb_spec hc.2
      obtain ⟨ei, _⟩ := hi.int_inv
      obtain ⟨b, o', c, e1, hz, hv⟩ := hx.rs_row b3
      refine op_value h hb hn hd ?_ hv he2
      simp only [execOp, hop, e1, ei, Sem.run_bind, run_indexAt_slice hu b1 b2 hz, Result.andThen_ok, add_plain', Sem.run_pure]
    · rename_i e id off len k q hu hv1 hv2
      rw [hv1] at hx; rw [hv2] at hi
      obtain ⟨ei, _⟩ := hi.int_inv
      split at he <;> first | (cases he; done) | skip
      rename_i e' es hm
      obtain ⟨hc, he2⟩ := cond_some he
      simp only [Bool.and_eq_true] at hc
      have := Nat.eq_of_beq_eq_true hc.1
      subst this
      obtain ⟨b1, b2, b3⟩ := inb_spec hc.2.1
      generalize hax : a.eval x = xv at hx
      cases hx with
      | sl0 => simp at b2; omega
      | @sl _ _ _ b sz c hR hle _ =>
        have hrow := h.mem id
        rw [hm] at hrow
        have hne : es ≠ [] := by
          intro e0
          have := hc.2.2
          rw [e0] at this
          simp [Nat.blt_eq] at this
        obtain ⟨b', cells, ty, m1, m2, m3, m4, _⟩ := hrow hne
        obtain ⟨rfl, rfl⟩ : b = b' ∧ sz = P.cellsOf e := by rw [hR] at m1; simpa using m1
        refine op_value h hb hn hd (v' := .pointer (some ⟨b, (off + q.toNat) * P.cellsOf e + 0, none⟩)) ?_ (.p hR) he2
        simp only [execOp, hop, hax, ei, Sem.run_bind, run_indexAt_slice hu b1 b2 m4, Result.andThen_ok, add_plain', Sem.run_pure, Nat.add_mul, Nat.add_zero]
    · rename_i e id e' es k q hu hv1 hv2
      rw [hv1] at hx; rw [hv2] at hi
      obtain ⟨hc, he2⟩ := cond_some he
      simp only [Bool.and_eq_true] at hc
      have := Nat.eq_of_beq_eq_true hc.1
      subst this
      obtain ⟨b1, b2, b3⟩ := inb_spec hc.2
      obtain ⟨ei, _⟩ := hi.int_inv
      obtain ⟨b, o', c, e1, hz, hv⟩ := hx.gv_rs.rs_row b3
      refine op_value h hb hn hd ?_ hv he2
      simp only [execOp, hop, e1, ei, Sem.run_bind, run_indexAt_slice hu b1 b2 hz, Result.andThen_ok, add_plain', Sem.run_pure]
    · rename_i e id i j len k q hu hv1 hv2
      rw [hv1] at hx; rw [hv2] at hi
      obtain ⟨hc, he2⟩ := cond_some he
      simp only [Bool.and_eq_true] at hc
      have hz : 0 < P.cellsOf e := by simpa [Nat.blt_eq] using hc.1
      obtain ⟨b1, b2, b3⟩ := inb_spec hc.2
      obtain ⟨ei, _⟩ := hi.int_inv
      generalize hax : a.eval x = xv at hx
      cases hx with
      | @sa _ _ _ _ b sz c hR hle _ =>
        refine op_value h hb hn hd (v' := .pointer (some ⟨b, i * sz + (j + q.toNat * P.cellsOf e), none⟩)) ?_ (.p hR) he2
        simp only [execOp, hop, hax, ei, Sem.run_bind, run_indexAt_slice hu b1 b2 hz, Result.andThen_ok, add_plain', Sem.run_pure, Nat.add_assoc]
    · rename_i len e id i j k q hu hv1 hv2
      rw [hv1] at hx; rw [hv2] at hi
      obtain ⟨ei, _⟩ := hi.int_inv
      obtain ⟨hc, he⟩ := cond_some he
      simp only [Bool.and_eq_true] at hc
      have hz : 0 < P.cellsOf e := by simpa [Nat.blt_eq] using hc.1
      obtain ⟨b1, b2, b3⟩ := inb_spec hc.2
      generalize hax : a.eval x = xv at hx
      cases hx with
      | @p _ _ _ b sz hR =>
        refine op_value h hb hn hd (v' := .pointer (some ⟨b, i * sz + (j + q.toNat * P.cellsOf e), none⟩)) ?_ (.p hR) he
        simp only [execOp, hop, hax, ei]
        simp [Instr.indexAt, asIntOf, run_underlying' hu, Instr.sureAddr, b1, b2, run_sizeOf' hz, add_plain', Nat.add_assoc]
    · rename_i len e all cs j k q hu hv1 hv2
      rw [hv1] at hx; rw [hv2] at hi
      obtain ⟨ei, _⟩ := hi.int_inv
      obtain ⟨hc, he⟩ := cond_some he
      simp only [Bool.and_eq_true] at hc
      have hz : 0 < P.cellsOf e := by simpa [Nat.blt_eq] using hc.1
      obtain ⟨b1, b2, b3⟩ := inb_spec hc.2
      generalize hax : a.eval x = xv at hx
      cases hx with
      | @rp _ _ _ b o' f' g1 g2 g3 g4 g5 =>
        refine op_value h hb hn hd (v' := .pointer (some ⟨b, o' + (j + q.toNat * P.cellsOf e), none⟩)) ?_ (.rp g1 g2 g3 g4 g5) he
        simp only [execOp, hop, hax, ei]
        simp [Instr.indexAt, asIntOf, run_underlying' hu, Instr.sureAddr, b1, b2, run_sizeOf' hz, add_plain', Nat.add_assoc]
  case load t x =>
    obtain ⟨v, u, h1, h2, h3⟩ := look_sound h (h.val x) he
    refine op_value h hb hn hd (v' := u) ?_ h2 h3
    simp only [execOp, hop, Sem.run_bind, h1, Result.andThen_ok, Sem.run_pure]
  case nilCheck x =>
    have hx := h.val x
    generalize hax : a.eval x = xv at hx
    split at he <;> first | (cases he; done) | skip
    · rename_i hv
      rw [hv] at hx
      cases hx with
      | p hR => exact op_value h hb hn hd (by simp only [execOp, hop, hax]; simp) (.p hR) he
    · rename_i hv
      rw [hv] at hx
      cases hx with
      | rp g1 g2 g3 g4 g5 => exact op_value h hb hn hd (by simp only [execOp, hop, hax]; simp) (.rp g1 g2 g3 g4 g5) he
  case index t x ix =>
    have hx := h.val x
    have hi := h.val ix
    split at he <;> first | (cases he; done) | skip
    rotate_left
    · rename_i len e cs k q hu hv1 hv2
      rw [hv1] at hx; rw [hv2] at hi
      obtain ⟨ei, _⟩ := hi.int_inv
      obtain ⟨cv, ex, c1, c2⟩ := hx.agg_inv
      have fin : ∀ {v : AV} {d : TypeDesc}, P.underlying e = some d → isAgg P e = false → P.cellsOf e = 1 → inb q len = true → inb q cs.length = true → v = cs.getD q.toNat .u → K ⟨v, none⟩ = some r → o.wpIn (FW ro) n P a w next Q := by
        intro v d hue hA h1 g1 g2 hv he
        obtain ⟨b1, b2, _⟩ := inb_spec g1
        obtain ⟨_, _, b3⟩ := inb_spec g2
        have hlt : q.toNat < cv.size := by omega
        refine op_value h hb hn hd (v' := cv[q.toNat]) ?_ ?_ he
        · have hs : (sizeOf e).run P w = .ok 1 w := by rw [run_sizeOf' (by omega)]; rw [h1]
          simp only [execOp, hop, ex, ei]
          simp [Instr.index, asIntOf, run_underlying' hu, b1, b2, hs, part, run_isAgg' hue, hA, hlt]
        · rw [hv]
          have := c2 q.toNat b3
          simpa [Array.getD_eq_getD_getElem?, hlt] using this
      split at he <;> first | (cases he; done) | skip
      · rename_i k' hue
        obtain ⟨hc, he⟩ := cond_some he
        simp only [Bool.and_eq_true] at hc
        obtain ⟨h1, h2, h3, h4⟩ := hc
        refine fin hue (by simp [isAgg, hue]) (Nat.eq_of_beq_eq_true h1) h3 h4 ?_ he
        obtain ⟨_, _, b3⟩ := inb_spec h4
        have := List.all_eq_true.1 h2 (cs[q.toNat]) (List.getElem_mem b3)
        simp only [List.getD_eq_getElem?_getD, List.getElem?_eq_getElem b3, Option.getD_some]
        split at this
        · rename_i k2 m hm
          rw [hm, of_decide_eq_true this]; rfl
        · cases this
      · rename_i hue
        obtain ⟨hc, he⟩ := cond_some he
        simp only [Bool.and_eq_true] at hc
        obtain ⟨h1, h2, h3, h4⟩ := hc
        refine fin hue (by simp [isAgg, hue]) (Nat.eq_of_beq_eq_true h1) h3 h4 ?_ he
        obtain ⟨_, _, b3⟩ := inb_spec h4
        have := List.all_eq_true.1 h2 (cs[q.toNat]) (List.getElem_mem b3)
        simp only [List.getD_eq_getElem?_getD, List.getElem?_eq_getElem b3, Option.getD_some]
        split at this
        · rename_i m hm
          rw [hm]; rfl
        · cases this
    rename_i s k q hu hv1 hv2
    rw [hv1] at hx; rw [hv2] at hi
    obtain ⟨ei, _⟩ := hi.int_inv
    obtain ⟨ex, _⟩ := hx.str_inv
    obtain ⟨hc, he⟩ := cond_some he
    obtain ⟨b1, b2, b3⟩ := inb_spec hc
    refine op_value h hb hn hd (v' := .int .u8 ((s.data.toList.getD q.toNat 0).toNat : Int)) ?_ (.i ?_ ?_) he
    · simp only [execOp, hop, ex, ei]
      have : s[q.toNat]? = some (s.data.toList.getD q.toNat 0) := by
        have hlt : q.toNat < s.data.size := b3
        simp [getElem?_pos, b3, List.getD_eq_getElem?_getD, hlt]
        rfl
      simp [Instr.index, asIntOf, run_underlying' hu, b1, this]
    · simp [IntKind.min, IntKind.signed]
    · have := (s.data.toList.getD q.toNat 0).toNat_lt
      simp [IntKind.max, IntKind.signed, IntKind.bits] at this ⊢
      omega
  case makeSlice t ln cp =>
    have hl := h.val ln
    have hc := h.val cp
    split at he <;> first | (cases he; done) | skip
    rename_i e m m' hu hv1 hv2
    rw [hv1] at hl; rw [hv2] at hc
    obtain ⟨el, _⟩ := hl.int_inv
    obtain ⟨ec, _⟩ := hc.int_inv
    split at he <;> first | (cases he; done) | skip
    rename_i z i hz hi
    obtain ⟨hg, he2⟩ := cond_some he
    simp only [Bool.and_eq_true, decide_eq_true_eq] at hg
    obtain ⟨ho, rfl, ⟨h0, hby⟩, hmx⟩ := hg
    obtain ⟨h1, h2, _⟩ := okT_spec ho
    obtain ⟨i', zv, z1, z2, z3, z4, z5⟩ := zeroOf_sound (P := P) (D := D) (R := R) (w := w) hz
    obtain rfl : i' = i := by rw [hi] at z1; exact (Option.some.inj z1).symm
    have hzl : z.length = P.cellsOf e := by rw [z3.1, h1]
    have hzs : zv.cells.size = P.cellsOf e := by rw [z4, hzl]
    have hidx : ∀ i j, i < m.toNat → j < P.cellsOf e → i * P.cellsOf e + j < m.toNat * P.cellsOf e := fun i j hi hj => idx_lt hi hj
    have hrep : ∀ i, i < m.toNat → (List.replicate m.toNat z).getD i [] = z := fun i hi => by simp [List.getD_eq_getElem?_getD, hi]
    have hcv : ∀ i j, i < m.toNat → j < P.cellsOf e → ((Array.range (m.toNat * P.cellsOf e)).map (fun x => zv.cells[x % zv.cells.size]!))[i * P.cellsOf e + j]? = some (zv.cells.getD j undef) := fun i j hi hj => by
      have := hidx i j hi hj
      have hj' : j < zv.cells.size := by omega
      have hmod : (i * P.cellsOf e + j) % zv.cells.size = j := by rw [hzs]; exact (div_idx hj).2
      simp [this, hmod, Array.getD_eq_getD_getElem?, hj', getElem!_def]
    have h' := h.fresh (site := site) (t := e) (es := List.replicate m.toNat z) (cv := (Array.range (m.toNat * P.cellsOf e)).map (fun x => zv.cells[x % zv.cells.size]!)) hf h1 h2 (by simp) (.sl (by simp; omega) (fun x hx => by rw [List.eq_of_mem_replicate hx]; exact z3.1) (fun x hx j hj => by
      rw [List.eq_of_mem_replicate hx] at hj ⊢
      exact z3.2 j hj)) (fun i j hi hj => by
      simp only [List.length_replicate] at hi
      exact ⟨_, hcv i j hi hj, by rw [hrep i hi]; exact z5 j (by omega)⟩)
    have hp : VR P (Dn P D w.heap.size (P.cellsOf e, 0) (.row e (List.replicate m.toNat z))) (Rn R site w.heap.size (P.cellsOf e, 0)) (w.alloc (.cells ((Array.range (m.toNat * P.cellsOf e)).map (fun x => zv.cells[x % zv.cells.size]!)) e)) (.sl site 0 m.toNat) (.slice (some ⟨w.heap.size, 0, none⟩) m.toNat m.toNat) := by
      have := VR.sl (P := P) (D := Dn P D w.heap.size (P.cellsOf e, 0) (.row e (List.replicate m.toNat z))) (w := w.alloc (.cells ((Array.range (m.toNat * P.cellsOf e)).map (fun x => zv.cells[x % zv.cells.size]!)) e)) (R := Rn R site w.heap.size (P.cellsOf e, 0)) (id := site) (off := 0) (len := m.toNat) (b := w.heap.size) (sz := P.cellsOf e) (c := m.toNat) (by simp [Rn]) (Nat.le_refl _) (by omega)
      simpa using this
    refine wpIn_value hd ?_ (hn _ _ ⟨_, some (site, .row e (List.replicate m.toNat z))⟩ _ _ (h'.put hb hp) .new he2)
    have hwm : IntKind.i64.wrap m = m := by
      simp [IntKind.wrap, IntKind.signed, IntKind.bits]; omega
    have hbig : ¬ (m < 0) := by omega
    have hbig2 : ¬ ((i'.bytes : Int) * m > 281474976710656) := by
      have : (i'.bytes : Int) * m = m * i'.bytes := Int.mul_comm _ _
      omega
    have hz0 : m.toNat * P.cellsOf e = 0 → ((Array.range (m.toNat * P.cellsOf e)).map (fun x => zv.cells[x % zv.cells.size]!)) = ((Array.range (m.toNat * P.cellsOf e)).map (fun x => (#[] : Array Value)[x % (#[] : Array Value).size]!)) := fun h0 => by rw [h0]; simp
    simp only [execOp, hop, el, ec]
    simp only [Instr.makeSlice, Sem.run_bind, run_underlying' hu, Result.andThen_ok, asInt, asIntOf, Sem.run_pure, typeInfo, run_program, hi, hwm]
    by_cases hm0 : m.toNat * P.cellsOf e = 0
    · rw [hz0 hm0]
      simp [hbig, hbig2, run_sizeOf' h2, hm0, newRow, newObj, Sem.run]
    · simp [hbig, hbig2, run_sizeOf' h2, hm0, zeroValue, typeInfo, hi, z2, newRow, newObj, Sem.run]
  case makeMap t rsv =>
    cases rsv with
    | some v => cases he
    | none =>
      simp only at he
      split at he <;> first | (cases he; done) | skip
      rename_i kt vt hu
      obtain ⟨hg, he⟩ := cond_some he
      simp only [Bool.and_eq_true] at hg
      have hb' := below_alloc' w (.map #[] 0)
      have h' := h.newrow (site := site) (B := w.heap.size) (s := (1, 0)) (blk := .mp kt vt []) hf hb' (.inl ⟨Nat.le_refl _, by simp, by simp⟩) ⟨hg.2.1, hg.2.2, hg.1, w.heap.size, #[], 0, by simp [Rn], World.alloc_heap_new w _, rfl, fun i hi => by simp at hi⟩
      refine wpIn_value hd ?_ (hn _ _ ⟨_, some (site, .mp kt vt [])⟩ _ _ (h'.put hb (.mp (b := w.heap.size) (by simp [Rn]))) .new he)
      simp only [execOp, hop, Option.map_none, Sem.run_bind]
      rfl
  case lookup t x ix ok =>
    have hx := h.val x
    have hi := h.val ix
    split at he <;> first | (cases he; done) | skip
    rename_i kt vt id hu hv1
    rw [hv1] at hx
    split at he <;> first | (cases he; done) | skip
    rename_i kt' vt' es hm
    split at he <;> first | (cases he; done) | skip
    rename_i k z hk hz
    obtain ⟨hg, he2⟩ := cond_some he
    simp only [Bool.and_eq_true] at hg
    obtain rfl := Nat.eq_of_beq_eq_true hg.1
    obtain rfl := Nat.eq_of_beq_eq_true hg.2
    obtain ⟨k1, k2, k3, b, en, cl, g1, g2, g3, g4⟩ := (by simpa [hm] using h.mem id : RowOK P D R w id (.mp kt vt es))
    obtain ⟨tk, vk⟩ := asT_sound hk hi
    obtain ⟨i, zv, z1, z2, tz, vz⟩ := zeroT_sound (P := P) (D := D) (R := R) (w := w) hz
    have pk := plain_TV k3 tk
    have ek := toV_plain pk vk
    generalize hax : a.eval x = xv at hx
    cases hx with
    | @mp _ b' hR =>
    obtain rfl : b' = b := by rw [hR] at g1; simpa using g1
    have hent : Ent P kt es en.toList := ⟨by simpa using g3, fun i hi => by
      obtain ⟨q1, q2, q3, q4, q5⟩ := g4 i hi
      refine ⟨q1, q2, ?_⟩
      simpa [Array.getD_eq_getD_getElem?, List.getD_eq_getElem?_getD] using q4⟩
    have hfind := find_key (w := w) k3 tk pk hent
    have hck := check_ok (w := w) k3 tk en.isEmpty 9998
    -- what is found
    have key : ∃ v' , VR P D R w (mval P vt z k es) v' ∧ (Instr.lookup t (.map (some b')) (a.eval ix) ok).run P w = .ok (if ok then .tuple #[v', .bool (mhas k es)] else v') w := by
      have hg' := mfind_get k es 0
      cases hmf : mfind k es 0 with
      | none =>
        rw [hmf] at hg' hfind
        refine ⟨zv, ?_, ?_⟩
        · simp only [mval, ← hg', Option.map_none, Option.getD_none]
          rw [projT_TV tz]; exact vz
        · have hh : mhas k es = false := by simp [mhas, ← hg']
          simp only [Instr.lookup, Sem.run_bind, run_underlying' hu, Result.andThen_ok, Go.MapKept.run_getObj_map g2, Sem.run_pure, ek, hck, hfind, Option.map_none, hh]
          simp [zeroValue, typeInfo, z1, z2]
          try (cases ok <;> rfl)
      | some p =>
        obtain ⟨j, v⟩ := p
        rw [hmf] at hg' hfind
        obtain ⟨m, e0, k', e1, e2⟩ := mfind_at hmf
        obtain rfl : j = m := by omega
        have hj : j < es.length := (List.getElem?_eq_some_iff.1 e1).1
        have hev : es.getD j (.u, .u) = (k', v) := by simp [List.getD_eq_getElem?_getD, e1]
        obtain ⟨q1, q2, q3, q4, q5⟩ := g4 j hj
        rw [hev] at q3 q5
        refine ⟨(en.toList.getD j default).val, ?_, ?_⟩
        · simp only [mval, ← hg', Option.map_some, Option.getD_some]
          rw [projT_TV q3]
          simpa [Array.getD_eq_getD_getElem?, List.getD_eq_getElem?_getD] using q5
        · have hh : mhas k es = true := by simp [mhas, ← hg']
          simp only [Instr.lookup, Sem.run_bind, run_underlying' hu, Result.andThen_ok, Go.MapKept.run_getObj_map g2, Sem.run_pure, ek, hck, hfind, Option.map_some, hh]
          try (cases ok <;> rfl)
    obtain ⟨v', q1, q2⟩ := key
    have hrun : (execOp a.eval o).run P w = .ok (.value (if ok then .tuple #[v', .bool (mhas k es)] else v')) w := by
      simp only [execOp, hop, hax, Sem.run_bind, q2, Result.andThen_ok, Sem.run_pure]
    cases ok with
    | true =>
      refine op_value h hb hn hd hrun (.tup (cs := [mval P vt z k es, .b (mhas k es)]) rfl fun j hj => ?_) he2
      match j, hj with
      | 0, _ => exact q1
      | 1, _ => exact .b
    | false => exact op_value h hb hn hd hrun q1 he2
  case mapUpdate t x kx vx =>
    have hx := h.val x
    have hi := h.val kx
    have hvv := h.val vx
    split at he <;> first | (cases he; done) | skip
    rename_i kt vt id hu hv1
    rw [hv1] at hx
    split at he <;> first | (cases he; done) | skip
    rename_i kt' vt' es hm
    split at he <;> first | (cases he; done) | skip
    rename_i k v hk hv
    obtain ⟨hg, he2⟩ := cond_some he
    simp only [Bool.and_eq_true] at hg
    obtain rfl := Nat.eq_of_beq_eq_true hg.1
    obtain rfl := Nat.eq_of_beq_eq_true hg.2
    obtain ⟨k1, k2, k3, b, en, cl, g1, g2, g3, g4⟩ := (by simpa [hm] using h.mem id : RowOK P D R w id (.mp kt vt es))
    obtain ⟨tk, vk⟩ := asT_sound hk hi
    obtain ⟨tv, vv⟩ := asT_sound hv hvv
    have pk := plain_TV k3 tk
    have ek := toV_plain pk vk
    generalize hax : a.eval x = xv at hx
    cases hx with
    | @mp _ b' hR =>
    obtain rfl : b' = b := by rw [hR] at g1; simpa using g1
    have hent : Ent P kt es en.toList := ⟨by simpa using g3, fun i hi => by
      obtain ⟨q1, q2, q3, q4, q5⟩ := g4 i hi
      refine ⟨q1, q2, ?_⟩
      simpa [Array.getD_eq_getD_getElem?, List.getD_eq_getElem?_getD] using q4⟩
    have hfind := find_key (w := w) k3 tk pk hent
    have hck := check_ok (w := w) k3 tk false 9998
    have hbl := (Array.getElem?_eq_some_iff.1 g2).1
    -- the entries behind it
    have key : ∃ en' cl', (Instr.mapUpdate t (.map (some b')) (a.eval kx) (a.eval vx)).run P w = .ok () { w with heap := w.heap.setIfInBounds b' (.map en' cl') } ∧ en'.size = (mset k v es).length ∧
        ∀ i, i < (mset k v es).length → TV P kt ((mset k v es).getD i (.u, .u)).1 ∧ plain ((mset k v es).getD i (.u, .u)).1 = true ∧ TV P vt ((mset k v es).getD i (.u, .u)).2 ∧
          (en'.getD i default).key = toV ((mset k v es).getD i (.u, .u)).1 ∧ VR P D R w ((mset k v es).getD i (.u, .u)).2 (en'.getD i default).val := by
      cases hmf : mfind k es 0 with
      | none =>
        rw [hmf] at hfind
        have hset : mset k v es = es ++ [(k, v)] := mset_none es 0 hmf
        refine ⟨en.push { key := toV k, val := a.eval vx, born := cl }, cl + 1, ?_, by simp [hset, g3], fun i hi => ?_⟩
        · simp only [Instr.mapUpdate, Sem.run_bind, run_underlying' hu, Result.andThen_ok, Go.MapKept.run_getObj_map g2, ek, hck, hfind, Option.map_none, Go.MapKept.run_setObj_map _ g2]
        · rw [hset] at hi ⊢
          by_cases h1 : i < es.length
          · have e1 : (es ++ [(k, v)]).getD i (.u, .u) = es.getD i (.u, .u) := by simp [List.getD_eq_getElem?_getD, List.getElem?_append_left h1]
            have e2 : (en.push { key := toV k, val := a.eval vx, born := cl }).getD i default = en.getD i default := by
              have : i < en.size := by omega
              simp [Array.getD_eq_getD_getElem?, Array.getElem?_push, show ¬ i = en.size by omega]
            rw [e1, e2]
            exact g4 i h1
          · have h2 : i = es.length := by simp at hi; omega
            have e1 : (es ++ [(k, v)]).getD i (.u, .u) = (k, v) := by simp [List.getD_eq_getElem?_getD, h2]
            have e2 : (en.push { key := toV k, val := a.eval vx, born := cl }).getD i default = { key := toV k, val := a.eval vx, born := cl } := by
              have h3 : i = en.size := by omega
              subst h3
              simp [Array.getD_eq_getD_getElem?, Array.getElem?_push]
            rw [e1, e2]
            exact ⟨tk, pk, tv, rfl, vv⟩
      | some p =>
        obtain ⟨j, v0⟩ := p
        rw [hmf] at hfind
        obtain ⟨m, e0, k', e1, e2⟩ := mfind_at hmf
        obtain rfl : j = m := by omega
        have hj : j < es.length := (List.getElem?_eq_some_iff.1 e1).1
        have hjn : j < en.size := by omega
        have hev : es.getD j (.u, .u) = (k', v0) := by simp [List.getD_eq_getElem?_getD, e1]
        obtain ⟨q1, q2, q3, q4, q5⟩ := g4 j hj
        rw [hev] at q2 q4
        obtain rfl : k = k' := (sameV_eq pk q2).1 e2
        have hset : mset k v es = es.set j (k, v) := by simpa using mset_some (v := v) es 0 hmf
        have hkey : en[j].key = toV k := by simpa [Array.getD_eq_getD_getElem?, hjn] using q4
        have hstay : (Instr.keyThatStays (toV k) (toV k)).run P w = .ok (toV k) w := by
          simp [Instr.keyThatStays, bits_self k3 tk 9999]
        refine ⟨en.modify j fun e => { e with key := toV k, val := a.eval vx }, cl, ?_, by simp [hset, g3], fun i hi => ?_⟩
        · simp only [Instr.mapUpdate, Sem.run_bind, run_underlying' hu, Result.andThen_ok, Go.MapKept.run_getObj_map g2, ek, hck, hfind, Option.map_some]
          have : ((en[j]?).map (·.key)).getD (toV k) = toV k := by simp [hjn, hkey]
          rw [this]
          simp only [hstay, Result.andThen_ok, Go.MapKept.run_setObj_map _ g2]
        · rw [hset] at hi ⊢
          have hi' : i < es.length := by simpa using hi
          have hin : i < en.size := by omega
          by_cases h1 : j = i
          · subst h1
            have e3 : (es.set j (k, v)).getD j (.u, .u) = (k, v) := by simp [List.getD_eq_getElem?_getD, hj]
            have e4 : (en.modify j fun e => { e with key := toV k, val := a.eval vx }).getD j default = { en[j] with key := toV k, val := a.eval vx } := by
              simp [Array.getD_eq_getD_getElem?, hjn, Array.getElem_modify]
            rw [e3, e4]
            exact ⟨tk, pk, tv, rfl, vv⟩
          · have e3 : (es.set j (k, v)).getD i (.u, .u) = es.getD i (.u, .u) := by simp [List.getD_eq_getElem?_getD, List.getElem?_set, h1]
            have e4 : (en.modify j fun e => { e with key := toV k, val := a.eval vx }).getD i default = en.getD i default := by
              simp [Array.getD_eq_getD_getElem?, Array.getElem?_modify, h1]
            rw [e3, e4]
            exact g4 i hi'
    obtain ⟨en', cl', q1, q2, q3⟩ := key
    have hst := h.rewrite (id := id) (b := b') (s := (1, 0)) (w' := { w with heap := w.heap.setIfInBounds b' (.map en' cl') }) (blk := .mp kt vt (mset k v es)) hR (by simp) (by rw [hm]; rfl) (by rw [hm]; intro _; trivial) (fun j hj => by simp [Ne.symm hj]) (by simp) rfl rfl rfl (fun _ h => by cases h)
      fun mono => ⟨k1, k2, k3, b', en', cl', hR, by simp [hbl], q2, fun i hi => by
        obtain ⟨p1, p2, p3, p4, p5⟩ := q3 i hi
        exact ⟨p1, p2, p3, p4, mono p5⟩⟩
    refine wpIn_skip' hd ?_ (hn D R ⟨_, some (id, _)⟩ _ _ (hst.put hb VR_undef) .refl he2)
    simp only [execOp, hop, hax, Sem.run_bind, q1, Result.andThen_ok, Sem.run_pure]
  case range t x =>
    have hx := h.val x
    split at he <;> first | (cases he; done) | skip
    rename_i s hu hv
    rw [hv] at hx
    obtain ⟨ex, hsz⟩ := hx.str_inv
    have hb' := below_alloc' w (.stringIter s 0)
    have h' := h.newrow (site := site) (B := w.heap.size) (s := (1, 0)) (blk := .si s 0) hf hb' (.inl ⟨Nat.le_refl _, by simp, by simp⟩) ⟨hsz, w.heap.size, by simp [Rn], World.alloc_heap_new w _⟩
    refine wpIn_value hd ?_ (hn _ _ ⟨_, some (site, .si s 0)⟩ _ _ (h'.put hb (.it (b := w.heap.size) (by simp [Rn]))) .new he)
    simp only [execOp, hop, ex]
    simp [Instr.range, run_underlying' hu, newObj, Sem.run]
  case next x isS =>
    cases isS with
    | false => cases he
    | true =>
      have hx := h.val x
      simp only at he
      split at he <;> first | (cases he; done) | skip
      rename_i id hv
      rw [hv] at hx
      split at he <;> first | (cases he; done) | skip
      rename_i s p hm
      obtain ⟨k1, b, g1, g2⟩ := (by simpa [hm] using h.mem id : RowOK P D R w id (.si s p))
      have hbl := (Array.getElem?_eq_some_iff.1 g2).1
      generalize hax : a.eval x = xv at hx
      cases hx with
      | @it _ b' hR =>
      obtain rfl : b' = b := by rw [hR] at g1; simpa using g1
      have hget : (getObj b').run P w = .ok (.stringIter s p) w := by simp [getObj, Sem.run, g2]
      cases hlt : Nat.blt p s.size with
      | true =>
        rw [hlt] at he
        simp only [cond_true] at he
        have hlt' : p < s.size := by simpa [Nat.blt_eq] using hlt
        obtain ⟨d1, d2⟩ := decode_bounds s p
        have hst := h.rewrite (id := id) (b := b') (s := (1, 0)) (w' := { w with heap := w.heap.setIfInBounds b' (.stringIter s (p + (Utf8.decode s p).2)) }) (blk := .si s (p + (Utf8.decode s p).2)) hR (by simp) (by rw [hm]; rfl) (by rw [hm]; intro _; trivial) (fun j hj => by simp [Ne.symm hj]) (by simp) rfl rfl rfl (fun _ h => by cases h)
          fun mono => ⟨k1, b', hR, by simp [hbl]⟩
        refine wpIn_value hd ?_ (hn D R ⟨_, some (id, _)⟩ _ _ (hst.put hb (v' := .tuple #[.bool true, goInt p, .int .i32 (Utf8.decode s p).1]) (.tup rfl fun j hj => ?_)) .refl he)
        · simp only [execOp, hop, hax]
          simp [Instr.next, hget, hlt', setObj, Sem.run, g2]
        · match j, hj with
          | 0, _ => exact .b
          | 1, _ => exact .i (by simp [IntKind.min, IntKind.signed, IntKind.bits] <;> omega) (by simp [IntKind.max, IntKind.signed, IntKind.bits] <;> omega)
          | 2, _ => exact .i (by simp [IntKind.min, IntKind.signed, IntKind.bits] <;> omega) (by simp [IntKind.max, IntKind.signed, IntKind.bits] <;> omega)
      | false =>
        rw [hlt] at he
        simp only [cond_false] at he
        have hlt' : ¬ p < s.size := by
          intro hc
          have : Nat.blt p s.size = true := by simpa [Nat.blt_eq] using hc
          rw [hlt] at this; cases this
        have hst := h.rewrite (id := id) (b := b') (s := (1, 0)) (w' := w) (blk := .si s p) hR (by simp) (by rw [hm]; rfl) (by rw [hm]; intro _; trivial) (fun j hj => rfl) rfl rfl rfl rfl (fun _ h => by cases h)
          fun mono => ⟨k1, b', hR, g2⟩
        refine wpIn_value hd ?_ (hn D R ⟨_, some (id, _)⟩ _ _ (hst.put hb (v' := .tuple #[.bool false]) (.tup rfl fun j hj => ?_)) .refl he)
        · simp only [execOp, hop, hax]
          simp [Instr.next, hget, hlt']
        · match j, hj with
          | 0, _ => exact .b
  case makeFunc fn first caps =>
    cases fn <;> simp only at he <;> first | (cases he; done) | skip
    rename_i f
    obtain ⟨hc, he⟩ := cond_some he
    have h0 : first = #[] := by
      have := Nat.eq_of_beq_eq_true hc
      exact Array.eq_empty_of_size_eq_zero this
    subst h0
    refine op_value h hb hn hd (v' := .func (.func f) #[] (caps.map a.eval)) ?_ (.fn (by simp) (fun k hk => ?_)) he
    · simp only [execOp, hop]; simp [Instr.makeFunc]
    · have := args_at h caps.toList k hk
      simpa [Array.getD_eq_getD_getElem?, List.getD_eq_getElem?_getD] using this
  case box t x =>
    split at he <;> first | (cases he; done) | skip
    rename_i cs hfit
    obtain ⟨g1, g2, g3, _⟩ := fit_sound hfit (h.val x)
    refine fresh_sound h hf hb hn hd g1 g2 g3 ?_ he
    simp only [execOp, hop, Sem.run_bind, run_box', Result.andThen_ok, Sem.run_pure]
  case buildSlice t n parts =>
    split at he <;> first | (cases he; done) | skip
    rename_i e hu
    split at he <;> first | (cases he; done) | skip
    rename_i z hz
    obtain ⟨hg, he⟩ := cond_some he
    simp only [Bool.and_eq_true] at hg
    have hbig : n * P.cellsOf e ≤ 16777216 := Nat.le_of_ble_eq_true hg.1
    have hzl : z.length = P.cellsOf e := Nat.eq_of_beq_eq_true hg.2
    split at he <;> first | (cases he; done) | skip
    rename_i cs hfill
    split at he <;> first | (cases he; done) | skip
    rename_i es hrows
    obtain ⟨i, zv, z1, z2, z3, z4, z5⟩ := zeroOf_sound (P := P) (D := D) (R := R) (w := w) hz
    have hcl : (cts P e).length = P.cellsOf e := by rw [← z3.1, hzl]
    have hzs : zv.cells.size = P.cellsOf e := by rw [z4, hzl]
    have hflat : ((List.replicate n z).flatten).length = n * P.cellsOf e := by simp [hzl]
    obtain ⟨cv, g1, g2, g3⟩ := fill_sound (P := P) (D := D) (R := R) (w := w) (pc := fun i => some (i * P.cellsOf e, P.cellsOf e)) (pv := parts.toList.map fun p => (p.1, a.eval p.2))
      (cv := (Array.range (n * P.cellsOf e)).map fun k => zv.cells[k % zv.cells.size]!)
      (fun i x hx => by simp only [Option.some.injEq] at hx; subst hx; rfl)
      hfill (by simp [hzl]) (fun k hk => by
        rw [hflat] at hk
        have hpos : 0 < P.cellsOf e := by
          rcases Nat.eq_zero_or_pos (P.cellsOf e) with h0 | h0
          · rw [h0] at hk; omega
          · exact h0
        have hlt := Nat.mod_lt k hpos
        have := z5 (k % P.cellsOf e) (by omega)
        rw [getD_flat z .u n k (by rw [hzl]; exact hk), hzl]
        simpa [Array.getD_eq_getD_getElem?, hk, hzs, hlt, getElem!_def] using this) (by simp) (fun k hk => by
        simp only [List.length_map] at hk
        rw [getD_map _ _ _ (0, .const Go.undef) _ hk, getD_map _ _ _ (0, .const Go.undef) _ hk]
        exact ⟨rfl, h.val _⟩)
    have hcsl : cs.length = n * P.cellsOf e := by rw [fill_length hfill, hflat]
    obtain ⟨q1, q2, q3⟩ := chunk_rows (P := P) (D := D) (R := R) (w := w) hcl (cv := cv.toList) hrows hcsl (by simpa using g2) (fun k hk => by
      have := g3 k hk
      simpa [Array.getD_eq_getD_getElem?, List.getD_eq_getElem?_getD] using this)
    refine freshRow_sound h hf hb hn hd (c := n) (cv := cv) (by omega) (fun h0 => by rw [h0] at q1; simpa using q1.symm) q2 (by rw [q1]; omega) (fun i j hi hj => ?_) ?_ he
    · have := q3 i j (by omega) hj
      simpa [Array.getD_eq_getD_getElem?, List.getD_eq_getElem?_getD] using this
    · have hparts : (parts.map fun x => match x with | (i, x) => (i, a.eval x)).toList = parts.toList.map fun p => (p.1, a.eval p.2) := by simp
      have hsz : (sizeOf e).run P w = .ok (P.cellsOf e) w := by simp [sizeOf, typeInfo, z1, Program.cellsOf]
      have hzv : (zeroValue e).run P w = .ok zv w := by simp [zeroValue, typeInfo, z1, z2]
      simp only [execOp, hop, Sem.run_bind, Sem.run_pure]
      have hno : ¬ n * P.cellsOf e > 2 ^ 24 := by omega
      rw [q1]
      simp only [Instr.buildSlice, Sem.run_bind, run_underlying' hu, Result.andThen_ok, hsz, hno, if_false, Sem.run_pure, hparts]
      by_cases h0 : n * P.cellsOf e = 0
      · simp only [h0, if_true, Sem.run_bind, Sem.run_pure, Result.andThen_ok] at g1 ⊢
        have e0 : ((Array.range 0).map fun k => (#[] : Array Value)[k % (#[] : Array Value).size]!) = (Array.range 0).map fun k => zv.cells[k % zv.cells.size]! := by simp
        rw [e0, g1]
        simp [newRow, newObj, Sem.run]
      · simp only [h0, if_false, Sem.run_bind, hzv, Sem.run_pure, Result.andThen_ok]
        rw [g1]
        simp [newRow, newObj, Sem.run]
  case alloc t =>
    split at he <;> first | (cases he; done) | skip
    rename_i cs hz
    obtain ⟨i, zv, z1, z2, z3, z4, z5⟩ := zeroOf_sound (P := P) (D := D) (R := R) (w := w) hz
    refine fresh_sound h hf hb hn hd z3 z4 z5 ?_ he
    simp only [execOp, hop, Sem.run_bind, run_alloc' z1 z2, Result.andThen_ok, Sem.run_pure]
  case store t x v =>
    have hx := h.val x
    have hv := h.val v
    generalize hax : a.eval x = xv at hx
    generalize hav : a.eval v = vv at hv
    have at3 : ∀ {cs : List AV}, (∀ k, k < cs.length → VR P D R w (cs.getD k .u) (vv.cells.getD k undef)) → ∀ k, k < cs.length → VR P D R w (cs.getD k .u) (vv.cells.toList.getD k undef) := fun q3 k hk => by
      have := q3 k hk
      simpa [Array.getD_eq_getD_getElem?, List.getD_eq_getElem?_getD] using this
    split at he <;> first | (cases he; done) | skip
    rename_i id i j hv1
    rw [hv1] at hx
    cases hx with
    | @p _ _ _ b' sz hR =>
    -- a store, once it is known what is stored and that the row is there
    have fin : ∀ (e : TypeId) (es : List (List AV)) (cs : List AV) (blk : Blk), (gm st.m id = .row e es ∨ gm st.m id = .lrow e es) → (okT P t && (ctsAt (cts P e) j (cts P t) && Nat.blt i es.length)) = true → cs.length = (cts P t).length →
        vv.cells.size = cs.length → (∀ u ∈ vv.cells.toList, u.oneCell' = true) → K ⟨.tup [], some (id, blk)⟩ = some r →
        (∀ cells ty, R id = some (b', P.cellsOf e, 0) → w.heap[b']? = some (.cells cells ty (0, 0)) → j + cs.length ≤ P.cellsOf e → i < es.length → (∀ k, k < cs.length → (cts P e).getD (j + k) .oth = (cts P t).getD k .oth) →
          SR P w0 X D R (st.mem id blk) a (w.setRow b' (cells.toList.take (i * P.cellsOf e + j) ++ vv.cells.toList ++ cells.toList.drop (i * P.cellsOf e + j + vv.cells.toList.length)).toArray)) →
        o.wpIn (FW ro) n P a w next Q := by
      intro e es cs blk hm hc q1 q2 q4 he hst
      simp only [Bool.and_eq_true] at hc
      obtain ⟨ho, hc, hi⟩ := hc
      have hi : i < es.length := by simpa [Nat.blt_eq] using hi
      have hne : es ≠ [] := by intro e0; rw [e0] at hi; simp at hi
      obtain ⟨hl, hpos, _⟩ := okT_spec ho
      obtain ⟨b, cells, ty, m1, m2, m3, m4, m5⟩ : ∃ b cells ty, R id = some (b, P.cellsOf e, 0) ∧ w.heap[b]? = some (.cells cells ty (0, 0)) ∧ (cts P e).length = P.cellsOf e ∧ 0 < P.cellsOf e ∧ es.length * P.cellsOf e ≤ cells.size := by
        have hrow := h.mem id
        rcases hm with hm | hm
        · rw [hm] at hrow
          obtain ⟨b, cells, ty, m1, m2, m3, m4, m5, _⟩ := hrow hne
          exact ⟨b, cells, ty, m1, m2, m3, m4, m5⟩
        · rw [hm] at hrow
          obtain ⟨b, cells, ty, m1, m2, m3, m4, m5, _⟩ := hrow hne
          exact ⟨b, cells, ty, m1, m2, m3, m4, m5⟩
      obtain ⟨rfl, rfl⟩ : b' = b ∧ sz = P.cellsOf e := by rw [hR] at m1; simpa using m1
      have hspec := ctsAt_spec hc
      have hcl : cs.length = P.cellsOf t := by rw [q1, hl]
      have hin : j + cs.length ≤ P.cellsOf e := by
        have := (hspec (P.cellsOf t - 1) (by omega)).1
        omega
      have hst := hst cells ty hR m2 hin hi (fun k hk => (hspec k (by omega)).2)
      have hrow : i * P.cellsOf e + P.cellsOf e ≤ cells.size := by
        have := Nat.mul_le_mul_right (P.cellsOf e) (show i + 1 ≤ es.length by omega)
        rw [Nat.add_mul, Nat.one_mul] at this
        omega
      refine wpIn_skip' hd ?_ (hn D R ⟨_, some (id, _)⟩ _ _ (hst.put hb VR_undef) .refl he)
      simp only [execOp, hop, hax, hav, Sem.run_bind, Instr.storeAt, Instr.sureAddr, Sem.run_pure, Result.andThen_ok, storeVar, run_sizeOf' hpos]
      rw [if_neg (by rw [q2, hcl]; simp), run_storeCells_at P b' (i * P.cellsOf e + j) ty vv.cells.toList 0 cells w m2 (by simp; omega) q4]
      simp
    split at he <;> first | (cases he; done) | skip
    · rename_i e es hm
      obtain ⟨hc, he⟩ := cond_some he
      split at he
      · rename_i cs hfit
        obtain ⟨q1, q2, q3, q4⟩ := fit_sound hfit hv
        exact fin e es cs _ (.inl hm) hc q1.1 q2 q4 he fun cells ty g1 g2 hin hi hty => h.store (new := cs) (nv := vv.cells.toList) hm g1 g2 hi hin (by simpa using q2) (fun k hk => by
          rw [hty k hk]
          exact q1.2 k hk) (at3 q3)
      · split at he <;> first | (cases he; done) | skip
        rename_i cs hfit
        obtain ⟨q1, q2, q3, q4⟩ := fitO_sound hfit hv
        exact fin e es cs _ (.inl hm) hc q1 q2 q4 he fun cells ty g1 g2 hin hi hty => h.storeL (new := cs) (nv := vv.cells.toList) (.inl hm) g1 g2 hi hin (by simpa using q2) (at3 q3)
    · rename_i e es hm
      obtain ⟨hc, he⟩ := cond_some he
      split at he <;> first | (cases he; done) | skip
      rename_i cs hfit
      obtain ⟨q1, q2, q3, q4⟩ := fitO_sound hfit hv
      exact fin e es cs _ (.inr hm) hc q1 q2 q4 he fun cells ty g1 g2 hin hi hty => h.storeL (new := cs) (nv := vv.cells.toList) (.inr hm) g1 g2 hi hin (by simpa using q2) (at3 q3)
  case slice t x lo hi mx =>
    cases mx with
    | some m => cases he
    | none =>
      have hx := h.val x
      generalize hax : a.eval x = xv at hx
      simp only at he
      split at he <;> first | (cases he; done) | skip
      · rename_i e e' es hu hv
        rw [hv] at hx
        split at he <;> first | (cases he; done) | skip
        rename_i k l k' q hl hq
        obtain ⟨hc, he2⟩ := cond_some he
        simp only [Bool.and_eq_true, decide_eq_true_eq] at hc
        obtain ⟨⟨hc1, hz⟩, h0, h1, h2⟩ := hc
        have := Nat.eq_of_beq_eq_true hc1
        subst this
        exact slice_rs h hb hn hd hop hu (by simpa [Nat.blt_eq] using hz) (numOf_spec h hl) (numOf_spec h hq) h0 h1 h2 (hax ▸ hx) he2
      · rename_i e id e' es hu hv
        rw [hv] at hx
        split at he <;> first | (cases he; done) | skip
        rename_i k l k' q hl hq
        obtain ⟨hc, he2⟩ := cond_some he
        simp only [Bool.and_eq_true, decide_eq_true_eq] at hc
        obtain ⟨⟨hc1, hz⟩, h0, h1, h2⟩ := hc
        have := Nat.eq_of_beq_eq_true hc1
        subst this
        exact slice_rs h hb hn hd hop hu (by simpa [Nat.blt_eq] using hz) (numOf_spec h hl) (numOf_spec h hq) h0 h1 h2 (hax ▸ hx.gv_rs) he2
      · rename_i e id off len hu hv
        rw [hv] at hx
        split at he <;> first | (cases he; done) | skip
        rename_i e' es hm
        split at he <;> first | (cases he; done) | skip
        rename_i k l k' q hl hq
        obtain ⟨hc, he2⟩ := cond_some he
        simp only [Bool.and_eq_true, decide_eq_true_eq] at hc
        obtain ⟨⟨hc1, hz, hfit⟩, h0, h1, h2⟩ := hc
        have hfit : off + len ≤ es.length := Nat.le_of_ble_eq_true hfit
        have := Nat.eq_of_beq_eq_true hc1
        subst this
        have hz : 0 < P.cellsOf e := by simpa [Nat.blt_eq] using hz
        have hlo := numOf_spec h hl
        have hhi := numOf_spec h hq
        have main : ∀ (ad : Option Addr) (c : Nat), len ≤ c → (Instr.sliceAt t (.slice ad len c) (lo.map a.eval) (hi.map a.eval) none).run P w =
            .ok (.slice (if c = l.toNat then ad else ad.map (·.add (l.toNat * P.cellsOf e))) (q.toNat - l.toNat) (c - l.toNat)) w := by
          intro ad c hc
          simp only [Instr.sliceAt, Sem.run_bind, run_underlying' hu, Result.andThen_ok, Instr.slice]
          rw [run_bounds hlo hhi h0 h1 h2 hc]
          simp only [Result.andThen_ok, run_sizeOf' hz, Sem.run_pure]
        have zero : ∀ (ad : Option Addr) (c : Nat), len ≤ c → (ad = none → c = 0) → q.toNat - l.toNat = 0 → o.wpIn (FW ro) n P a w next Q ∨ xv ≠ .slice ad len c := fun ad c hc hac hq0 => by
          by_cases hxe : xv = .slice ad len c
          · left
            refine op_value h hb hn hd (v' := .slice (if c = l.toNat then ad else ad.map (·.add (l.toNat * P.cellsOf e))) (q.toNat - l.toNat) (c - l.toNat)) ?_ (by
              rw [hq0]
              exact .sl0 fun h0 => by
                cases ad with
                | none => have := hac rfl; omega
                | some ad => split at h0 <;> cases h0) he2
            simp only [execOp, hop, Sem.run_bind, hax, hxe, Option.map_none, main _ _ hc]
            rfl
          · exact .inr hxe
        cases hx with
        | @sl0 _ _ c ad hadc =>
          rcases zero ad c (Nat.zero_le _) hadc (by simp at h2; omega) with h | h
          · exact h
          · exact absurd rfl h
        | @sl _ _ _ b sz c hR hle hlm =>
          by_cases hq0 : q.toNat - l.toNat = 0
          · rcases zero (some ⟨b, off * sz, none⟩) c hle (fun h => by cases h) hq0 with h | h
            · exact h
            · exact absurd rfl h
          · have hne : ¬ c = l.toNat := by omega
            have hrow := h.mem id
            rw [hm] at hrow
            have hsz : es ≠ [] → sz = P.cellsOf e := fun hne' => by
              obtain ⟨b', cells, ty, m1, _⟩ := hrow hne'
              rw [hR] at m1
              simpa using (by simpa using m1 : b = b' ∧ sz = P.cellsOf e).2
            by_cases hes : es = []
            · exfalso
              rw [hes] at hfit
              simp at hfit; omega
            · obtain rfl := hsz hes
              refine op_value h hb hn hd (v' := .slice (some ⟨b, (off + l.toNat) * P.cellsOf e, none⟩) (q.toNat - l.toNat) (c - l.toNat)) ?_ (.sl hR (by omega) (by omega)) he2
              simp only [execOp, hop, Sem.run_bind, hax, Option.map_none, main _ _ hle, hne, if_false, Option.map_some, add_plain', ← Nat.add_mul]
              rfl
      · rename_i t' id i j hu hv
        rw [hv] at hx
        split at he <;> first | (cases he; done) | skip
        rename_i m e hu'
        split at he <;> first | (cases he; done) | skip
        rename_i k l k' q hl hq
        obtain ⟨hc, he2⟩ := cond_some he
        simp only [Bool.and_eq_true, decide_eq_true_eq] at hc
        obtain ⟨⟨hc1, hz⟩, h0, hlm, h1, h2⟩ := hc
        have hc1 : m ≤ 9223372036854775807 := Nat.le_of_ble_eq_true hc1
        have hz : 0 < P.cellsOf e := by simpa [Nat.blt_eq] using hz
        have hlo := numOf_spec h hl
        have hhi := numOf_spec h hq
        cases hx with
        | @p _ _ _ b sz hR =>
          refine op_value h hb hn hd (v' := .slice (some ⟨b, i * sz + (j + l.toNat * P.cellsOf e), none⟩) (q.toNat - l.toNat) (m - l.toNat)) ?_ (.sa hR (by omega) (by omega)) he2
          have hne : ¬ m = l.toNat := by omega
          simp only [execOp, hop, Sem.run_bind, hax, Option.map_none, Instr.sliceAt, run_underlying' hu, Result.andThen_ok, Instr.slice, asAddr, Instr.sureAddr, Sem.run_pure, run_underlying' hu', run_bounds hlo hhi h0 h1 h2 (Nat.le_refl _), run_sizeOf' hz, hne, if_false, add_plain', Nat.add_assoc]
      · rename_i s hu hv
        rw [hv] at hx
        split at he <;> first | (cases he; done) | skip
        rename_i k l k' q hl hq
        obtain ⟨hc, he2⟩ := cond_some he
        simp only [Bool.and_eq_true, decide_eq_true_eq] at hc
        obtain ⟨h0, h1, h2⟩ := hc
        obtain ⟨rfl, hsz⟩ := hx.str_inv
        have hlo := numOf_spec h hl
        have hhi := numOf_spec h hq
        refine op_value h hb hn hd (v' := .string (s.extract l.toNat q.toNat)) ?_ (.s (by simp; omega)) he2
        simp only [execOp, hop, Sem.run_bind, hax, Option.map_none, Instr.sliceAt, run_underlying' hu, Result.andThen_ok, Instr.slice, Option.isSome_none, Bool.false_eq_true, if_false, Sem.run_pure]
        rw [run_bounds hlo hhi h0 h1 h2 (Nat.le_refl _)]
        rfl
  case call c =>
    have hres : ∀ (f : Operand), c.callee = .value f → ∀ g cv, a.eval f = .func (.func g) #[] cv → (resolve a.eval c o.type).run P w = .ok { target := .fn (.func g) cv, args := #[] ++ c.args.map a.eval } w := by
      intro f hc g cv hf'
      simp [resolve, hc, Deferred.ofValue, hf']
    have hresb : ∀ b, c.callee = .builtin b → ∃ cs, (resolve a.eval c o.type).run P w = .ok { target := .builtin b c.argTypes o.type cs, args := c.args.map a.eval } w := by
      intro b hc
      simp only [resolve, hc, Sem.run_pure]
      exact ⟨_, rfl⟩
    have hargs := args_at h c.args.toList
    split at he
    · rename_i hc
      obtain ⟨csb, hrb⟩ := hresb _ hc
      have one : ∀ {v : AV}, c.args.toList.map (val st) = [v] → ∃ u, c.args.map a.eval = #[u] ∧ VR P D R w v u := by
        intro v hv
        have hl : c.args.toList.length = 1 := by have := congrArg List.length hv; simpa using this
        match hcl : c.args.toList, hl with
        | [x], _ =>
          refine ⟨a.eval x, ?_, ?_⟩
          · apply Array.ext'
            simp [hcl]
          · rw [hcl] at hv
            simp only [List.map_cons, List.map_nil, List.cons.injEq, and_true] at hv
            rw [← hv]
            exact h.val x
      have hty : ∀ {d : TypeDesc}, (c.argTypes[0]?).bind P.underlying = some d → ∃ t, c.argTypes[0]? = some t ∧ P.underlying t = some d := by
        intro d hd
        cases ht : c.argTypes[0]? with
        | none => rw [ht] at hd; cases hd
        | some t => rw [ht] at hd; exact ⟨t, rfl, hd⟩
      split at he <;> first | (cases he; done) | skip
      · rename_i e es e2 hv hd'
        obtain ⟨u, hu1, hu2⟩ := one hv
        obtain ⟨t, ht, hut⟩ := hty hd'
        have : ∃ ad cc, u = .slice ad es.length cc ∧ es.length ≤ 9223372036854775807 := by
          cases hu2 with
          | rs0 => exact ⟨_, _, rfl, by simp⟩
          | rs _ _ _ _ _ h5 _ _ =>
            cases h5 with
            | sl h1 _ _ => exact ⟨_, _, rfl, h1⟩
        obtain ⟨ad, cc, rfl, hle⟩ := this
        refine op_value h hb hn hd (v' := .int .i64 es.length) ?_ (.i (by simp [IntKind.min, IntKind.signed, IntKind.bits] <;> omega) (by simp [IntKind.max, IntKind.signed, IntKind.bits] <;> omega)) he
        simp only [execOp, hop, Sem.run_bind, hrb, Result.andThen_ok, invoke, builtin, hu1]
        simp [Builtin.len_, ht, run_underlying' hut, goInt]
      · rename_i e2 hv hd'
        obtain ⟨u, hu1, hu2⟩ := one hv
        obtain ⟨t, ht, hut⟩ := hty hd'
        cases hu2
        refine op_value h hb hn hd (v' := .int .i64 0) ?_ (.i (by simp [IntKind.min, IntKind.signed, IntKind.bits]) (by simp [IntKind.max, IntKind.signed, IntKind.bits])) he
        simp only [execOp, hop, Sem.run_bind, hrb, Result.andThen_ok, invoke, builtin, hu1]
        simp [Builtin.len_, ht, run_underlying' hut, goInt]
      · rename_i id off m e2 hv hd'
        obtain ⟨u, hu1, hu2⟩ := one hv
        obtain ⟨t, ht, hut⟩ := hty hd'
        cases hu2 with
        | sl0 =>
          refine op_value h hb hn hd (v' := .int .i64 0) ?_ (.i (by simp [IntKind.min, IntKind.signed, IntKind.bits]) (by simp [IntKind.max, IntKind.signed, IntKind.bits])) he
          simp only [execOp, hop, Sem.run_bind, hrb, Result.andThen_ok, invoke, builtin, hu1]
          simp [Builtin.len_, ht, run_underlying' hut, goInt]
        | @sl _ _ _ b sz cc hR hle hle2 =>
          refine op_value h hb hn hd (v' := .int .i64 m) ?_ (.i (by simp [IntKind.min, IntKind.signed, IntKind.bits] <;> omega) (by simp [IntKind.max, IntKind.signed, IntKind.bits] <;> omega)) he
          simp only [execOp, hop, Sem.run_bind, hrb, Result.andThen_ok, invoke, builtin, hu1]
          simp [Builtin.len_, ht, run_underlying' hut, goInt]
      · rename_i full e2 hv hd'
        obtain ⟨u, hu1, hu2⟩ := one hv
        obtain ⟨t, ht, hut⟩ := hty hd'
        cases hu2
        refine op_value h hb hn hd (v' := .int .i64 0) ?_ (.i (by simp [IntKind.min, IntKind.signed, IntKind.bits]) (by simp [IntKind.max, IntKind.signed, IntKind.bits])) he
        simp only [execOp, hop, Sem.run_bind, hrb, Result.andThen_ok, invoke, builtin, hu1]
        simp [Builtin.len_, ht, run_underlying' hut, goInt]
      · rename_i id e3 es e2 hv hd'
        obtain ⟨u, hu1, hu2⟩ := one hv
        obtain ⟨t, ht, hut⟩ := hty hd'
        have : ∃ ad cc, u = .slice ad es.length cc ∧ es.length ≤ 9223372036854775807 := by
          cases hu2 with
          | gv0 => exact ⟨_, _, rfl, by simp⟩
          | gv _ _ _ _ _ h5 _ _ _ => exact ⟨_, _, rfl, (WT_rs h5).1⟩
        obtain ⟨ad, cc, rfl, hle⟩ := this
        refine op_value h hb hn hd (v' := .int .i64 es.length) ?_ (.i (by simp [IntKind.min, IntKind.signed, IntKind.bits] <;> omega) (by simp [IntKind.max, IntKind.signed, IntKind.bits] <;> omega)) he
        simp only [execOp, hop, Sem.run_bind, hrb, Result.andThen_ok, invoke, builtin, hu1]
        simp [Builtin.len_, ht, run_underlying' hut, goInt]
      · rename_i id i j m e2 hv hd'
        obtain ⟨u, hu1, hu2⟩ := one hv
        obtain ⟨t, ht, hut⟩ := hty hd'
        cases hu2 with
        | @sa _ _ _ _ b sz cc hR hle hle2 =>
          refine op_value h hb hn hd (v' := .int .i64 m) ?_ (.i (by simp [IntKind.min, IntKind.signed, IntKind.bits] <;> omega) (by simp [IntKind.max, IntKind.signed, IntKind.bits] <;> omega)) he
          simp only [execOp, hop, Sem.run_bind, hrb, Result.andThen_ok, invoke, builtin, hu1]
          simp [Builtin.len_, ht, run_underlying' hut, goInt]
      · rename_i s hv hd'
        obtain ⟨u, hu1, hu2⟩ := one hv
        obtain ⟨t, ht, hut⟩ := hty hd'
        obtain ⟨rfl, hsz⟩ := hu2.str_inv
        refine op_value h hb hn hd (v' := .int .i64 s.size) ?_ (.i (by simp [IntKind.min, IntKind.signed, IntKind.bits] <;> omega) (by simp [IntKind.max, IntKind.signed, IntKind.bits] <;> omega)) he
        simp only [execOp, hop, Sem.run_bind, hrb, Result.andThen_ok, invoke, builtin, hu1]
        simp [Builtin.len_, ht, run_underlying' hut, goInt]
    · rename_i hc
      exact minmax_sound (mx := true) h hb hn hd hop hc hresb he
    · rename_i hc
      exact minmax_sound (mx := false) h hb hn hd hop hc hresb he
    · rename_i hc
      obtain ⟨csb, hrb⟩ := hresb _ hc
      split at he <;> first | (cases he; done) | skip
      rename_i x y t t' hv hty
      have key : ∃ xv yv, c.args.map a.eval = #[xv, yv] ∧ c.argTypes = #[t, t'] ∧ VR P D R w x xv ∧ VR P D R w y yv := by
        have hl : c.args.toList.length = 2 := by have := congrArg List.length hv; simpa using this
        match hcl : c.args.toList, hl with
        | [p, q], _ =>
          rw [hcl] at hv
          simp only [List.map_cons, List.map_nil, List.cons.injEq, and_true] at hv
          refine ⟨a.eval p, a.eval q, ?_, ?_, hv.1 ▸ h.val p, hv.2 ▸ h.val q⟩
          · apply Array.ext'
            simp [hcl]
          · apply Array.ext'
            simpa using hty
      obtain ⟨xv, yv, ha1, ha2, hx, hy⟩ := key
      have hrun : ∀ v w', (Builtin.append_ #[t, t'] o.type #[xv, yv]).run P w = .ok v w' → (execOp a.eval o).run P w = .ok (.value v) w' := fun v w' hr => by
        simp only [execOp, hop, Sem.run_bind, hrb, Result.andThen_ok, invoke, builtin, ha1, ha2, hr, Sem.run_pure]
      split at he <;> first | (cases he; done) | skip
      · rename_i e hu
        exact grown_sound h hf hb hn hd hu (.inl rfl) hx (VR_fitA _ hy) hrun he
      · rename_i e hu
        exact grown_sound h hf hb hn hd hu (.inr rfl) hx (VR_fitA _ hy) hrun he
    · rename_i f hc
      have hf' := h.val f
      generalize haf : a.eval f = fv at hf'
      split at he <;> first | (cases he; done) | skip
      rename_i g caps hv
      rw [hv] at hf'
      obtain ⟨hfree, he⟩ := cond_some he
      split at he <;> first | (cases he; done) | skip
      rename_i pre v hS
      obtain ⟨hpre, he⟩ := cond_some he
      have hcon := hs _ _ _ _ _ _ hS hpre
      obtain ⟨fn, hfn, hname, hbody⟩ := hcon.fn
      cases hf' with
      | @fn _ _ cv c1 c2 =>
        have hbody' : fn.body.isNone = false := by cases hb' : fn.body <;> simp_all
        have hrun : (execOp a.eval o).run P w = .ok (.enter g (#[] ++ c.args.map a.eval ++ cv)) w := by
          simp only [execOp, hop, Sem.run_bind, hres f hc g cv haf, Result.andThen_ok, invoke, callFunc, run_program, hfn, hname, hbody', Bool.false_eq_true, if_false, Sem.run_pure]
        have hlen : (fitArgs P c.argTypes.toList (c.args.toList.map (val st)) ++ caps).length = c.args.size + caps.length := by simp [fitArgs_length]
        have hC := hcon.plain D w (#[] ++ c.args.map a.eval ++ cv) h.lt (by simp [fitArgs_length, c1]) (fun k hk => by
          have hv1 : ∀ k, k < (fitArgs P c.argTypes.toList (c.args.toList.map (val st))).length → VR P D R w ((fitArgs P c.argTypes.toList (c.args.toList.map (val st))).getD k .u) ((c.args.toList.map a.eval).getD k undef) := by
            intro k hk
            rw [fitArgs_length] at hk
            exact fitArgs_at _ _ _ hargs k hk
          have := app_at (v1 := c.args.toList.map a.eval) (v2 := cv.toList) (by simp [fitArgs_length]) hv1 (fun k hk => by
            have := c2 k hk
            simpa [Array.getD_eq_getD_getElem?, List.getD_eq_getElem?_getD] using this) k hk
          have e : (#[] ++ c.args.map a.eval ++ cv).getD k undef = (c.args.toList.map a.eval ++ cv.toList).getD k undef := by
            rw [Array.getD_eq_getD_getElem?, List.getD_eq_getElem?_getD, ← Array.getElem?_toList]
            simp
          rw [e]
          exact this.free_any (nb := 0) (R' := none2) (fun _ _ h => absurd h (by omega)) (freeL_at hfree hk))
        refine wpIn_enter hd hrun hC ?_
        rintro e w' ⟨v', rfl, hv', hbw⟩
        refine ⟨v', rfl, ?_⟩
        have hv'' : VR P D R w' v v' := hv'.mono (fun id x e => by cases e) (fun b hlt => .inr ⟨fun _ hd => hd, rfl⟩)
        exact hn D R ⟨v, none⟩ v' w' ((h.world hbw).put hb hv'') .refl he
    · cases he
end Go.Ev

set_option linter.unusedVariables false
set_option linter.unusedSimpArgs false
namespace Go.Ev
open Go Go.RowKit

variable {P : Program} {w0 : Base} {X D : Nat → Nat → Prop} {R : Nat → Option (Nat × Nat × Nat)} {st : St} {a : Act} {w : World}
variable {ro : Option Nat} {n : Nat} {o : Oper} {next : Act → World → Prop} {Q : Exit → Act → World → Prop} {ρ : Type} {r : ρ} {site : Nat} {S : Spec} {RO : Nat → Bool}

/-- What follows a piece of code. -/
def Fresh (R : Nat → Option (Nat × Nat × Nat)) (nx : Nat) : Prop := ∀ id, nx ≤ id → R id = none

theorem getD_bool {a : Act} {t : Nat} {x : Bool} (h : a.tmps.getD t undef = .bool x) : a.tmps[t]? = some (.bool x) := by
  rw [Array.getD_eq_getD_getElem?] at h
  cases ht : a.tmps[t]? with
  | none => rw [ht] at h; simp [undef] at h
  | some v => rw [ht] at h; simp at h; rw [h]

theorem dst_ok {o : Oper} {nt : Nat} (h : (o.dst.map (Nat.blt · nt)).getD true = true) : ∀ x, o.dst = some x → x < nt := by
  intro x hx
  rw [hx] at h
  simpa [Nat.blt_eq] using h

theorem put_defers (a : Act) (d : Option Nat) (v : Value) : (a.put d v).defers = a.defers := by cases d <;> rfl

theorem nd_nodup : ∀ {I : List Nat}, nd I = true → I.Nodup
  | [], _ => List.nodup_nil
  | a :: I, h => by
    simp only [nd, Bool.and_eq_true, Bool.not_eq_true'] at h
    refine List.nodup_cons.2 ⟨fun hm => ?_, nd_nodup h.2⟩
    rw [has_iff.2 hm] at h
    cases h.1
theorem nodup_inj : ∀ {I : List Nat} {i j : Nat}, I.Nodup → (hi : i < I.length) → (hj : j < I.length) → I[i] = I[j] → i = j
  | [], i, j, _, hi, _, _ => by simp at hi
  | a :: I, 0, 0, _, _, _, _ => rfl
  | a :: I, 0, j + 1, h, hi, hj, e => by
    have := (List.nodup_cons.1 h).1
    exact absurd (by simp at e; rw [e]; exact List.getElem_mem _) this
  | a :: I, i + 1, 0, h, hi, hj, e => by
    have := (List.nodup_cons.1 h).1
    exact absurd (by simp at e; rw [← e]; exact List.getElem_mem _) this
  | a :: I, i + 1, j + 1, h, hi, hj, e => by
    have := nodup_inj (List.nodup_cons.1 h).2 (by simpa using hi) (by simpa using hj) (by simpa using e)
    omega
/-- The arguments of a call of a function's value. -/
theorem call_args (h : SR P w0 X D R st a w) (c : Call) {caps : List AV} {cv : Array Value} (c1 : cv.size = caps.length) (c2 : ∀ k, k < caps.length → VR P D R w (caps.getD k .u) (cv.getD k undef)) :
    (#[] ++ c.args.map a.eval ++ cv).size = (fitArgs P c.argTypes.toList (c.args.toList.map (val st)) ++ caps).length ∧
    ∀ k, k < (fitArgs P c.argTypes.toList (c.args.toList.map (val st)) ++ caps).length → VR P D R w ((fitArgs P c.argTypes.toList (c.args.toList.map (val st)) ++ caps).getD k .u) ((#[] ++ c.args.map a.eval ++ cv).getD k undef) := by
  refine ⟨by simp [fitArgs_length, c1], fun k hk => ?_⟩
  have hargs := args_at h c.args.toList
  have hv1 : ∀ k, k < (fitArgs P c.argTypes.toList (c.args.toList.map (val st))).length → VR P D R w ((fitArgs P c.argTypes.toList (c.args.toList.map (val st))).getD k .u) ((c.args.toList.map a.eval).getD k undef) := by
    intro k hk
    rw [fitArgs_length] at hk
    exact fitArgs_at _ _ _ hargs k hk
  have := app_at (v1 := c.args.toList.map a.eval) (v2 := cv.toList) (by simp [fitArgs_length]) hv1 (fun k hk => by
    have := c2 k hk
    simpa [Array.getD_eq_getD_getElem?, List.getD_eq_getElem?_getD] using this) k hk
  have e : (#[] ++ c.args.map a.eval ++ cv).getD k undef = (c.args.toList.map a.eval ++ cv.toList).getD k undef := by
    rw [Array.getD_eq_getD_getElem?, List.getD_eq_getElem?_getD, ← Array.getElem?_toList]
    simp
  rw [e]
  exact this

/-- What follows an operation that may turn more rows than one. -/
def AfterB (P : Program) (w0 : Base) (X : Nat → Nat → Prop) (R : Nat → Option (Nat × Nat × Nat)) (st : St) (a : Act) (o : Oper) (site : Nat) {ρ : Type} (K : St → Option ρ) (r : ρ) (next : Act → World → Prop) : Prop :=
  ∀ D' R' st' v' w', SR P w0 X D' R' st' (a.put o.dst v') w' → Fr R R' site → st'.nx = st.nx → st'.nt = st.nt → K st' = some r → next (a.put o.dst v') w'

theorem callM_sound {K : St → Option ρ} (hs : SpecOK P S) (h : SR P w0 X D R st a w) (hb : ∀ x, o.dst = some x → x < st.nt) (hn : AfterB P w0 X R st a o site K r next) {c : Call} {f : Operand} (hop : o.op = .call c) (hc : c.callee = .value f)
    {g : FuncId} {caps : List AV} (hv : val st f = .fn g caps) (he : callM P S o st g (fitArgs P c.argTypes.toList (c.args.toList.map (val st)) ++ caps) K = some r) : o.wpIn (FW ro) n P a w next Q := by
  have hd : ∀ c, o.op ≠ .defer c := by intro c hc; rw [hop] at hc; cases hc
  unfold callM at he
  simp only at he
  generalize reach P st 4 (addAll (idsL P (fitArgs P c.argTypes.toList (c.args.toList.map (val st)) ++ caps)) []) = I at he
  obtain ⟨hg, he⟩ := cond_some he
  simp only [Bool.and_eq_true] at hg
  obtain ⟨hnd, hokA, hokR⟩ := hg
  have hnd := nd_nodup hnd
  have hokR : ∀ id, id ∈ I → okB P (has I) (gm st.m id) = true := fun id hid => List.all_eq_true.1 hokR id hid
  split at he <;> first | (cases he; done) | skip
  rename_i pre v rows hS
  obtain ⟨hg2, he3⟩ := cond_some he
  simp only [Bool.and_eq_true] at hg2
  obtain ⟨hpre, hl, hokv, hokr⟩ := hg2
  have hl : rows.length = I.length := Nat.eq_of_beq_eq_true hl
  have hcon := hs _ _ _ _ _ _ hS hpre
  obtain ⟨fn, hfn, hname, hbody⟩ := hcon.fn
  have hf' := h.val f
  rw [hv] at hf'
  generalize haf : a.eval f = fv at hf'
  cases hf' with
  | @fn _ _ cv c1 c2 =>
    have hbody' : fn.body.isNone = false := by cases hb' : fn.body <;> simp_all
    have hres : (resolve a.eval c o.type).run P w = .ok { target := .fn (.func g) cv, args := #[] ++ c.args.map a.eval } w := by
      simp [resolve, hc, Deferred.ofValue, haf]
    have hrun : (execOp a.eval o).run P w = .ok (.enter g (#[] ++ c.args.map a.eval ++ cv)) w := by
      simp only [execOp, hop, Sem.run_bind, hres, Result.andThen_ok, invoke, callFunc, run_program, hfn, hname, hbody', Bool.false_eq_true, if_false, Sem.run_pure]
    obtain ⟨a1, a2⟩ := call_args h c c1 c2
    generalize fitArgs P c.argTypes.toList (c.args.toList.map (val st)) ++ caps = args at *
    -- what is handed
    have hRp : ∀ id y, has I id = true → R id = some y → Rc R I (pos I id) = some y := fun id y hid e => (Rc_pos (has_iff.1 hid)).trans e
    have hrows : ∀ b, rowsOf (Rc R I) b → ∀ o, D b o := by
      rintro b ⟨j, s, e⟩ o
      unfold Rc at e
      split at e
      · rename_i id hj
        exact h.dom id b s o e ((okB_alive (hokR id (List.mem_of_getElem? hj))).2 s o)
      · cases e
    have hXD : ∀ b o, XR (fun b o => D b o ∧ ¬ rowsOf (Rc R I) b) (Rc R I) b o ↔ D b o := fun b o => by
      constructor
      · rintro (h | h)
        · exact h.1
        · exact hrows b h o
      · intro hd
        by_cases hr : rowsOf (Rc R I) b
        · exact .inr hr
        · exact .inl ⟨hd, hr⟩
    have toX : ∀ {R2 : Nat → Option (Nat × Nat × Nat)} {w2 : World} {x : AV} {v : Value}, VR P D R2 w2 x v → VR P (XR (fun b o => D b o ∧ ¬ rowsOf (Rc R I) b) (Rc R I)) R2 w2 x v := fun hv => hv.mono' (fun _ _ e => e) fun b o u hd hc => ⟨fun hx => hd ((hXD b o).1 hx), hc⟩
    have ofX : ∀ {R2 : Nat → Option (Nat × Nat × Nat)} {w2 : World} {x : AV} {v : Value}, VR P (XR (fun b o => D b o ∧ ¬ rowsOf (Rc R I) b) (Rc R I)) R2 w2 x v → VR P D R2 w2 x v := fun hv => hv.mono' (fun _ _ e => e) fun b o u hd hc => ⟨fun hx => hd ((hXD b o).2 hx), hc⟩
    have hC := hcon.calls (fun b o => D b o ∧ ¬ rowsOf (Rc R I) b) (Rc R I) w (#[] ++ c.args.map a.eval ++ cv) (fun b o hx => h.lt b o hx.1) (fun id hid => by
        rw [List.length_map] at hid
        simp [Rc, List.getElem?_eq_none hid]) (fun id b s e => by
        have hr : rowsOf (Rc R I) b := ⟨id, s, e⟩
        unfold Rc at e
        split at e
        · rename_i id' hj
          have hm := List.mem_of_getElem? hj
          have hs := h.nz id' b s e ((okB_alive (hokR id' hm)).2 s)
          exact ⟨(h.own id' b s e hs).2, hs, fun o hx => hx.2 hr⟩
        · cases e) (fun id id' b s s' e e' => by
        unfold Rc at e e'
        split at e <;> first | (cases e; done) | skip
        rename_i i hi
        split at e' <;> first | (cases e'; done) | skip
        rename_i i' hi'
        have hm := hokR i (List.mem_of_getElem? hi)
        have hm' := hokR i' (List.mem_of_getElem? hi')
        have := h.inj i i' b s s' e e' (h.nz i b s e ((okB_alive hm).2 s)) (h.nz i' b s' e' ((okB_alive hm').2 s')) (okB_alive hm).1 (okB_alive hm').1
        subst this
        have g1 := List.getElem?_eq_some_iff.1 hi
        have g2 := List.getElem?_eq_some_iff.1 hi'
        obtain ⟨g1, g3⟩ := g1
        obtain ⟨g2, g4⟩ := g2
        exact nodup_inj hnd g1 g2 (g3.trans g4.symm)) (fun j hj => by
        rw [List.length_map] at hj
        have e1 : (I.map fun id => renB P (pos I) (gm st.m id)).getD j .dead = renB P (pos I) (gm st.m I[j]) := by simp [List.getD_eq_getElem?_getD, hj]
        rw [e1]
        have hm : I[j] ∈ I := List.getElem_mem hj
        have := (h.mem I[j]).ren hRp (id' := j) (fun y e => by simpa [Rc, hj] using e) (hokR _ hm)
        exact this.mono rfl (fun _ _ _ _ => rfl) fun _ _ => toX) (by rw [renL_length]; exact a1) (fun k hk => by
        rw [renL_length] at hk
        rw [renL_at _ _ _ hk]
        exact toX ((a2 k hk).ren hRp (okL_at hokA hk)))
    refine wpIn_enter hd hrun hC ?_
    rintro e w' ⟨v', rfl, hv', hrow, hbw⟩
    refine ⟨v', rfl, ?_⟩
    obtain ⟨mono, hS'⟩ := h.called hnd hokR hl (fun j hj => by
      have hm : rows.getD j .dead ∈ rows := by simp [List.getD_eq_getElem?_getD, show j < rows.length by omega]
      exact List.all_eq_true.1 hokr _ hm) (fun j hj => (hrow j (by rw [List.length_map]; exact hj)).mono rfl (fun _ _ _ _ => rfl) fun _ _ => ofX) hbw
    have hvv : VR P D R w' (renV P (back I) v) v' := (ofX hv').ren (fun j y hj e => (Rc_back (by simpa [Nat.blt_eq] using hj)).trans e) hokv
    refine hn D R _ v' w' (hS'.put hb hvv) .refl ?_ ?_ he3
    · rw [put_nx]
    · rw [put_nt]

theorem growM_sound {K : St → Option ρ} (h : SR P w0 X D R st a w) (hf : R site = none) (hb : ∀ x, o.dst = some x → x < st.nt) (hn : AfterB P w0 X R st a o site K r next) {c : Call} (hop : o.op = .call c) (hc : c.callee = .builtin .append)
    {id : Nat} {e : TypeId} {es : List (List AV)} {y : AV} {t t' : TypeId} (hv : c.args.toList.map (val st) = [.gv id e es, y]) (hty : c.argTypes.toList = [t, t']) (he : growM P site o st t t' id e es (fitA P t' y) K = some r) : o.wpIn (FW ro) n P a w next Q := by
  have hd : ∀ c, o.op ≠ .defer c := by intro c hc; rw [hop] at hc; cases hc
  have key : ∃ xv yv, c.args.map a.eval = #[xv, yv] ∧ c.argTypes = #[t, t'] ∧ VR P D R w (.gv id e es) xv ∧ VR P D R w y yv := by
    have hl : c.args.toList.length = 2 := by have := congrArg List.length hv; simpa using this
    match hcl : c.args.toList, hl with
    | [p, q], _ =>
      rw [hcl] at hv
      simp only [List.map_cons, List.map_nil, List.cons.injEq, and_true] at hv
      refine ⟨a.eval p, a.eval q, ?_, ?_, hv.1 ▸ h.val p, hv.2 ▸ h.val q⟩
      · apply Array.ext'
        simp [hcl]
      · apply Array.ext'
        simpa using hty
  obtain ⟨xv, yv, ha1, ha2, hx, hy⟩ := key
  have hres : ∃ cs, (resolve a.eval c o.type).run P w = .ok { target := .builtin .append c.argTypes o.type cs, args := c.args.map a.eval } w := by
    simp only [resolve, hc, Sem.run_pure]
    exact ⟨_, rfl⟩
  obtain ⟨csb, hrb⟩ := hres
  have hrun : ∀ v w', (Builtin.append_ #[t, t'] o.type #[xv, yv]).run P w = .ok v w' → (execOp a.eval o).run P w = .ok (.value v) w' := fun v w' hr => by
    simp only [execOp, hop, Sem.run_bind, hrb, Result.andThen_ok, invoke, builtin, ha1, ha2, hr, Sem.run_pure]
  have hy2 := VR_fitA (P := P) t' hy
  unfold growM at he
  split at he <;> first | (cases he; done) | skip
  rename_i e2 e' ys e3 i hu hyy hm hin
  rw [hyy] at hy2
  obtain ⟨hg, he2⟩ := cond_some he
  simp only [Bool.and_eq_true] at hg
  obtain ⟨g1, g2, g3, g4, ⟨g5, g6, g7⟩, g8, g9⟩ := hg
  obtain rfl := Nat.eq_of_beq_eq_true g1
  obtain rfl := Nat.eq_of_beq_eq_true g2
  obtain rfl := Nat.eq_of_beq_eq_true g3
  obtain rfl := Nat.eq_of_beq_eq_true g4
  obtain ⟨hby, he3⟩ := cond_some he2
  obtain ⟨D', R', v', w', q1, q2, q3, q4⟩ := grow_own h hf (ty := o.type) hu hin g5 g8 g9 (Nat.le_of_ble_eq_true hby) g6 hm hx hy2 (Nat.le_of_ble_eq_true g7)
  refine wpIn_value hd (hrun _ _ q1) (hn D' R' _ v' w' (q2.put hb q3) q4 ?_ ?_ he3)
  · rw [put_nx]; rfl
  · rw [put_nt]; rfl

theorem evDo_sound {K : St → Option ρ} (hs : SpecOK P S) (h : SR P w0 X D R st a w) (hf : R site = none) (hb : ∀ x, o.dst = some x → x < st.nt) (he : evDo P S RO site o st K = some r) (hn : AfterB P w0 X R st a o site K r next) : o.wpIn (FW ro) n P a w next Q := by
  have plain : (evOp P S RO site o st fun e => K (st.app o.dst e)) = some r → o.wpIn (FW ro) n P a w next Q := fun he =>
    evOp_sound hs h hf hb he fun D' R' e v' w' hS hR hK => hn D' R' _ v' w' hS hR (app_nx _ _) (app_nt _ _) hK
  unfold evDo at he
  cases hk : kd P o st with
  | plain => rw [hk] at he; exact plain he
  | bad => rw [hk] at he; cases he
  | call g args =>
    rw [hk] at he
    unfold kd at hk
    split at hk <;> first | (cases hk; done) | skip
    rename_i c hop
    unfold kdC at hk
    split at hk <;> first | (cases hk; done) | skip
    · rename_i f hc
      split at hk <;> first | (cases hk; done) | skip
      rename_i g' caps hv
      cases hfr : freeL P 0 (fitArgs P c.argTypes.toList (c.args.toList.map (val st)) ++ caps) with
      | true => rw [hfr] at hk; cases hk
      | false =>
        rw [hfr] at hk
        simp only [cond_false, Kd.call.injEq] at hk
        obtain ⟨rfl, rfl⟩ := hk
        exact callM_sound hs h hb hn hop hc hv he
    · split at hk <;> cases hk
  | grow t t' id e es y =>
    rw [hk] at he
    unfold kd at hk
    split at hk <;> first | (cases hk; done) | skip
    rename_i c hop
    unfold kdC at hk
    split at hk <;> first | (cases hk; done) | skip
    · split at hk <;> first | (cases hk; done) | skip
      rename_i g' caps hv
      cases hfr : freeL P 0 (fitArgs P c.argTypes.toList (c.args.toList.map (val st)) ++ caps) <;> rw [hfr] at hk <;> cases hk
    · rename_i hc
      split at hk <;> first | (cases hk; done) | skip
      rename_i id' e' es' y' t1 t2 hv hty
      simp only [Kd.grow.injEq] at hk
      obtain ⟨rfl, rfl, rfl, rfl, rfl, rfl⟩ := hk
      exact growM_sound h hf hb hn hop hc hv hty he

/-- A region in the text's order. -/
theorem evOpsB_sound (hs : SpecOK P S) {ops : Array Oper} {base : Nat} : ∀ (l : List Oper) (j : Nat) {st : St} {a : Act} {w : World} {D : Nat → Nat → Prop} {R : Nat → Option (Nat × Nat × Nat)} {K : St → Option ρ} {r : ρ}
    (hl : ∀ i, l[i]? = ops[j + i]?) (h : SR P w0 X D R st a w) (hf : Fresh R (base + j)) (he : evOpsB P S RO ops base l j st K = some r)
    (hn : ∀ D' R' st' a' w', SR P w0 X D' R' st' a' w' → Fresh R' (base + j + l.length) → (∀ id, id < base + j → R' id = R id) → a'.defers = a.defers → st'.nx = st.nx → st'.nt = st.nt → K st' = some r → Q .normal a' w'),
    wpOpsIn (FW ro) n P ops Q (List.range' j l.length) a w
  | [], j, st, a, w, D, R, K, r, hl, h, hf, he, hn => hn D R st a w h hf (fun _ _ => rfl) rfl rfl rfl he
  | o :: l, j, st, a, w, D, R, K, r, hl, h, hf, he, hn => by
    have ho : ops[j]? = some o := by have := hl 0; simpa using this.symm
    have hl' : ∀ i, l[i]? = ops[j + 1 + i]? := fun i => by
      have := hl (i + 1)
      simp only [List.getElem?_cons_succ] at this
      rw [this]; congr 1; omega
    simp only [evOpsB] at he
    obtain ⟨hdst, he⟩ := cond_some he
    have hb := dst_ok hdst
    simp only [List.length_cons, List.range'_succ, wpOpsIn, ho]
    -- performing, passing over
    have perform : ∀ {st0 : St}, SR P w0 X D R st0 a w → st0.nx = st.nx → st0.nt = st.nt → evDo P S RO (base + j) o st0 (fun s => evOpsB P S RO ops base l (j + 1) s K) = some r →
        o.wpIn (FW ro) n P a w (wpOpsIn (FW ro) n P ops Q (List.range' (j + 1) l.length)) Q := by
      intro st0 h0 hx ht he
      refine evDo_sound hs h0 (hf _ (Nat.le_refl _)) (by rw [ht]; exact hb) he fun D' R' st1 v' w' hS hR hx1 ht1 hK => ?_
      refine evOpsB_sound hs l (j + 1) hl' hS (fun id hid => by rw [hR.R id (by omega)]; exact hf id (by omega)) hK fun D'' R'' st'' a'' w'' hS' hf' hRR hdd hx' ht' hK' => ?_
      exact hn D'' R'' st'' a'' w'' hS' (by simpa [Nat.add_assoc, Nat.add_comm 1] using hf') (fun id hid => (hRR id (by omega)).trans (hR.R id (by omega))) (hdd.trans (put_defers _ _ _)) (hx'.trans (hx1.trans hx)) (ht'.trans (ht1.trans ht)) hK'
    have pass : ∀ {st0 : St}, SR P w0 X D R st0 a w → st0.nx = st.nx → st0.nt = st.nt → evOpsB P S RO ops base l (j + 1) (st0.put o.dst (.tup [])) K = some r →
        (∀ f, o.about P w a.eval = some f → (FW ro).fn f) ∧ wpOpsIn (FW ro) n P ops Q (List.range' (j + 1) l.length) (a.put o.dst undef) w := by
      intro st0 h0 hx ht he
      refine ⟨fun _ _ => trivial, evOpsB_sound hs l (j + 1) hl' (h0.put (by rw [ht]; exact hb) VR_undef) (fun id hid => hf id (by omega)) he fun D'' R'' st'' a'' w'' hS' hf' hRR hdd hx' ht' hK' => ?_⟩
      exact hn D'' R'' st'' a'' w'' hS' (by simpa [Nat.add_assoc, Nat.add_comm 1] using hf') (fun id hid => hRR id (by omega)) (hdd.trans (put_defers _ _ _)) (hx'.trans ((put_nx _ _).trans hx)) (ht'.trans ((put_nt _ _).trans ht)) hK'
    cases hg : o.guard with
    | none =>
      rw [hg] at he
      have hw : Region.wanted o (yielded ops a.tmps) = true := by simp [Region.wanted, hg]
      rw [if_pos hw]
      exact perform h rfl rfl he
    | some gw =>
      obtain ⟨g, want⟩ := gw
      rw [hg] at he
      simp only at he
      cases htg : (ops[g]?).bind (·.dst) with
      | none => rw [htg] at he; cases he
      | some tg =>
        rw [htg] at he
        simp only at he
        have hv := h.tmp tg
        split at he
        · rename_i x hx
          rw [hx] at hv
          have hb1 := hv.bool_inv
          have hb2 := getD_bool hb1
          have hy : yielded ops a.tmps g = some x := by simp [yielded, htg, hb2]
          have hwant : Region.wanted o (yielded ops a.tmps) = (x == want) := by simp [Region.wanted, hg, hy]
          cases x
          · simp only [cond_false] at he
            have hk := h.know (d := tg) (v := .b false) (by rw [hb1]; exact .b)
            cases want
            · rw [if_pos (by rw [hwant]; rfl)]
              exact perform hk rfl rfl he
            · rw [if_neg (by rw [hwant]; decide)]
              exact pass hk rfl rfl he
          · simp only [cond_true] at he
            have hk := h.know (d := tg) (v := .b true) (by rw [hb1]; exact .b)
            cases want
            · rw [if_neg (by rw [hwant]; decide)]
              exact pass hk rfl rfl he
            · rw [if_pos (by rw [hwant]; rfl)]
              exact perform hk rfl rfl he
        · rename_i hx
          rw [hx] at hv
          have hy : yielded ops a.tmps g = none := by
            generalize hq : a.tmps.getD tg Go.undef = q at hv
            cases hv with
            | tup h1 _ =>
              simp only [yielded, htg, Option.bind_some]
              rw [Array.getD_eq_getD_getElem?] at hq
              cases ht : a.tmps[tg]? with
              | none => rfl
              | some z => rw [ht] at hq; simp at hq; subst hq; rfl
          have hwant : Region.wanted o (yielded ops a.tmps) = false := by simp [Region.wanted, hg, hy]
          rw [if_neg (by rw [hwant]; decide)]
          exact pass h rfl rfl he
        · cases he
end Go.Ev
