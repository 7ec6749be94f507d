/-
  The law WearRates returns true for every climate and all numbers, and leaves its arguments as they were. No conditions.
-/
import Derived.Test.YteclfchlejocmaaEvD
set_option linter.unusedVariables false
set_option linter.unusedSimpArgs false
namespace Go.Ev
open Go Go.RowKit

variable {P : Program} {w0 : Base} {X D : Nat → Prop} {R : Nat → Option (Nat × Nat)} {st : St} {a : Act} {w : World}

theorem splice_get {α : Type} (l nv : List α) (o p : Nat) (h : o + nv.length ≤ l.length) :
    (l.take o ++ nv ++ l.drop (o + nv.length))[p]? = if p < o then l[p]? else if p < o + nv.length then nv[p - o]? else l[p]? := by
  by_cases h1 : p < o
  · simp only [h1, if_true]
    rw [List.append_assoc, List.getElem?_append_left (by simp; omega), List.getElem?_take]
    simp [h1]
  · simp only [h1, if_false]
    by_cases h2 : p < o + nv.length
    · simp only [h2, if_true]
      rw [List.append_assoc, List.getElem?_append_right (by simp; omega), List.getElem?_append_left (by simp; omega)]
      congr 1
      simp; omega
    · simp only [h2, if_false]
      rw [List.append_assoc, List.getElem?_append_right (by simp; omega), List.getElem?_append_right (by simp; omega), List.getElem?_drop]
      congr 1
      simp; omega

theorem setCs_length {cs new : List AV} {j : Nat} (h : j + new.length ≤ cs.length) : (setCs cs j new).length = cs.length := by
  unfold setCs
  split
  · simp
  · simp [splice]; omega
theorem setCs_getD {cs new : List AV} {j k : Nat} (h : j + new.length ≤ cs.length) :
    (setCs cs j new).getD k .u = if k < j then cs.getD k .u else if k < j + new.length then new.getD (k - j) .u else cs.getD k .u := by
  unfold setCs
  split
  · rename_i v
    simp only [List.length_cons, List.length_nil, Nat.zero_add] at h ⊢
    simp only [List.getD_eq_getElem?_getD, List.getElem?_set]
    by_cases h1 : j = k
    · subst h1
      have : j < cs.length := by omega
      simp [this]
    · simp only [h1, if_false]
      by_cases h2 : k < j
      · simp [h2]
      · simp [h2, show ¬ k < j + 1 by omega]
  · simp only [splice, List.getD_eq_getElem?_getD, splice_get _ _ _ _ h]
    by_cases h1 : k < j
    · simp [h1]
    · by_cases h2 : k < j + new.length <;> simp [h1, h2]

theorem idx_in {sz i j i' k len : Nat} (hj : j + len ≤ sz) (hk : k < sz) : (i * sz + j ≤ i' * sz + k ∧ i' * sz + k < i * sz + j + len) ↔ (i' = i ∧ j ≤ k ∧ k < j + len) := by
  constructor
  · rintro ⟨h1, h2⟩
    have e : i' = i := by
      rcases Nat.lt_trichotomy i' i with h | h | h
      · have := Nat.mul_le_mul_right sz (show i' + 1 ≤ i by omega)
        rw [Nat.add_mul, Nat.one_mul] at this
        omega
      · exact h
      · have := Nat.mul_le_mul_right sz (show i + 1 ≤ i' by omega)
        rw [Nat.add_mul, Nat.one_mul] at this
        omega
    subst e
    omega
  · rintro ⟨rfl, h1, h2⟩
    omega

/-- A store into a row of the evaluator's. -/
theorem SR.store (h : SR P w0 X D R st a w) {id i j : Nat} {e : TypeId} {es : List (List AV)} {new : List AV} {nv : List Value} {b : Nat} {cells : Array Value} {ty : TypeId}
    (hm : gm st.m id = .row e es) (hR : R id = some (b, P.cellsOf e)) (hh : w.heap[b]? = some (.cells cells ty (0, 0))) (hi : i < es.length) (hj : j + new.length ≤ P.cellsOf e)
    (hl : nv.length = new.length) (hW : ∀ k, k < new.length → WT P ((cts P e).getD (j + k) .oth) (new.getD k .u)) (hv : ∀ k, k < new.length → VR P D R w (new.getD k .u) (nv.getD k undef)) :
    SR P w0 X D R (st.mem id (.row e (es.set i (setCs (es.getD i []) j new)))) a (w.setRow b (cells.toList.take (i * P.cellsOf e + j) ++ nv ++ cells.toList.drop (i * P.cellsOf e + j + nv.length)).toArray) := by
  have hDb : D b := (h.own id b _ hR).1
  generalize hw' : w.setRow b (cells.toList.take (i * P.cellsOf e + j) ++ nv ++ cells.toList.drop (i * P.cellsOf e + j + nv.length)).toArray = w'
  have hother : ∀ k, k ≠ b → w'.heap[k]? = w.heap[k]? := fun k hk => by rw [← hw']; exact setRow_other w b k _ hk
  have mono : ∀ {x : AV} {v : Value}, VR P D R w x v → VR P D R w' x v :=
    fun hv => hv.mono (fun _ _ e => e) (fun k hlt hd => ⟨hd, hother k (fun e => hd (e ▸ hDb))⟩)
  obtain ⟨b', cells', ty', g1, g2, g3, g4, g5, g6, g7⟩ := h.mem id e es hm
  rw [hR] at g1
  obtain rfl : b = b' := by simpa using g1
  rw [hh] at g2
  obtain ⟨rfl, rfl⟩ : cells = cells' ∧ ty = ty' := by simpa using g2
  have hx : es.getD i [] ∈ es := by simp [List.getD_eq_getElem?_getD, List.getElem?_eq_getElem hi]
  obtain ⟨hlen, hrow, hcell⟩ : es.length ≤ 9223372036854775807 ∧ (∀ x, x ∈ es → x.length = (cts P e).length) ∧ (∀ x, x ∈ es → ∀ j, j < x.length → WT P ((cts P e).getD j .oth) (x.getD j .u)) := by
    cases g6 with
    | sl a b c => exact ⟨a, b, c⟩
  have hxl : (es.getD i []).length = P.cellsOf e := by rw [hrow _ hx, g3]
  have hcs : i * P.cellsOf e + P.cellsOf e ≤ cells.size := by
    have := Nat.mul_le_mul_right (P.cellsOf e) (show i + 1 ≤ es.length by omega)
    rw [Nat.add_mul, Nat.one_mul] at this
    omega
  have hs' : (cells.toList.take (i * P.cellsOf e + j) ++ nv ++ cells.toList.drop (i * P.cellsOf e + j + nv.length)).length = cells.size := by
    simp; omega
  have hw'b : w'.heap[b]? = some (.cells (cells.toList.take (i * P.cellsOf e + j) ++ nv ++ cells.toList.drop (i * P.cellsOf e + j + nv.length)).toArray ty (0, 0)) := by
    rw [← hw']; exact setRow_heap w b cells _ ty _ hh
  have hget : ∀ i' k, k < P.cellsOf e → i' < es.length → ((cells.toList.take (i * P.cellsOf e + j) ++ nv ++ cells.toList.drop (i * P.cellsOf e + j + nv.length)).toArray)[i' * P.cellsOf e + k]? =
      if i' = i ∧ j ≤ k ∧ k < j + new.length then nv[k - j]? else cells[i' * P.cellsOf e + k]? := by
    intro i' k hk hi'
    rw [List.getElem?_toArray, splice_get _ _ _ _ (by simp; omega), hl]
    have hidx := @idx_in (P.cellsOf e) i j i' k new.length hj hk
    by_cases hc : i' = i ∧ j ≤ k ∧ k < j + new.length
    · have h1 := hidx.2 hc
      simp only [hc, and_self, if_true]
      obtain ⟨rfl, hc1, hc2⟩ := hc
      simp only [show ¬ (i' * P.cellsOf e + k < i' * P.cellsOf e + j) by omega, show i' * P.cellsOf e + k < i' * P.cellsOf e + j + new.length by omega, if_true, if_false]
      congr 1
      omega
    · simp only [hc, if_false]
      have h1 : ¬ (i * P.cellsOf e + j ≤ i' * P.cellsOf e + k ∧ i' * P.cellsOf e + k < i * P.cellsOf e + j + new.length) := fun h => hc (hidx.1 h)
      by_cases h2 : i' * P.cellsOf e + k < i * P.cellsOf e + j
      · simp [h2]
      · have h3 : ¬ (i' * P.cellsOf e + k < i * P.cellsOf e + j + new.length) := fun h => h1 ⟨by omega, h⟩
        simp [h2, h3]
  have hsetl : (setCs (es.getD i []) j new).length = P.cellsOf e := by rw [setCs_length (by omega), hxl]
  have hWx : ∀ k, k < P.cellsOf e → WT P ((cts P e).getD k .oth) ((setCs (es.getD i []) j new).getD k .u) := by
    intro k hk
    rw [setCs_getD (by omega)]
    split
    · exact hcell _ hx k (by omega)
    · split
      · have := hW (k - j) (by omega)
        rwa [show j + (k - j) = k by omega] at this
      · exact hcell _ hx k (by omega)
  have hes' : ∀ x, x ∈ es.set i (setCs (es.getD i []) j new) → x = setCs (es.getD i []) j new ∨ x ∈ es := fun x hx => by
    rcases List.mem_or_eq_of_mem_set hx with h | h
    · exact .inr h
    · exact .inl h
  refine ⟨fun t => mono (h.tmp t), h.nt, fun id' e' es' he => ?_, h.own, h.inj, h.X, fun k hd => by rw [← hw']; simpa using h.lt k hd, ?_, ?_⟩
  · simp only [St.mem, gm_cons] at he
    by_cases hid : id' = id
    · subst hid
      simp only [if_true, Blk.row.injEq] at he
      obtain ⟨rfl, rfl⟩ := he
      refine ⟨b, _, ty, hR, hw'b, g3, g4, by rw [List.size_toArray, hs', List.length_set]; exact g5, .sl (by simpa using hlen) (fun x hx => ?_) (fun x hx k hk => ?_), fun i' k hi' hk => ?_⟩
      · rcases hes' x hx with rfl | hx
        · rw [hsetl, g3]
        · exact hrow x hx
      · rcases hes' x hx with rfl | hx
        · exact hWx k (by omega)
        · exact hcell x hx k hk
      · rw [hget i' k hk (by simpa using hi')]
        have hi'' : i' < es.length := by simpa using hi'
        obtain ⟨v, q1, q2⟩ := g7 i' k hi'' hk
        by_cases hc : i' = i
        · subst hc
          have e1 : (es.set i' (setCs (es.getD i' []) j new)).getD i' [] = setCs (es.getD i' []) j new := by simp [List.getD_eq_getElem?_getD, hi'']
          rw [e1, setCs_getD (by omega)]
          by_cases h1 : j ≤ k ∧ k < j + new.length
          · simp only [h1, and_self, true_and, if_true, show ¬ k < j by omega, if_false]
            have := hv (k - j) (by omega)
            refine ⟨nv.getD (k - j) undef, ?_, mono this⟩
            have : k - j < nv.length := by omega
            simp [List.getD_eq_getElem?_getD, this]
          · simp only [h1, and_false, if_false]
            refine ⟨v, q1, ?_⟩
            by_cases h2 : k < j
            · simpa [h2] using mono q2
            · have h3 : ¬ k < j + new.length := fun h => h1 ⟨by omega, h⟩
              simpa [h2, h3] using mono q2
        · simp only [hc, false_and, if_false]
          refine ⟨v, q1, ?_⟩
          have e1 : (es.set i (setCs (es.getD i []) j new)).getD i' [] = es.getD i' [] := by simp [List.getD_eq_getElem?_getD, List.getElem?_set, Ne.symm hc]
          rw [e1]
          exact mono q2
    · simp only [hid, if_false] at he
      obtain ⟨b1, cells1, ty1, h1, h2, h3, h4, h5, h6, h7⟩ := h.mem id' e' es' he
      have hne : b1 ≠ b := fun hb => hid (h.inj _ _ _ _ _ h1 (hb ▸ hR))
      refine ⟨b1, cells1, ty1, h1, (hother b1 hne).trans h2, h3, h4, h5, h6, fun i j hi hj => ?_⟩
      obtain ⟨v, q1, q2⟩ := h7 i j hi hj
      exact ⟨v, q1, mono q2⟩
  · have hge := (h.own id b _ hR).2
    refine ⟨by rw [← hw']; exact h.old.os, by rw [← hw']; exact h.old.tape, by rw [← hw']; exact h.old.output, by rw [← hw']; simpa using h.old.size, fun k hk hY => (hother k (fun e => ?_)).trans (h.old.block k hk hY)⟩
    rcases hge with hge | hge
    · omega
    · exact hY (e ▸ hge)
  · obtain ⟨ds, d1, d2, d3⟩ := h.df
    exact ⟨ds, d1, d2, fun k hk => ⟨(hother k (fun e => (d3 k hk).2.1 (e ▸ hDb))).trans (d3 k hk).1, (d3 k hk).2⟩⟩
end Go.Ev
