/-
  The law WearRates returns true for every climate and all numbers, and leaves its arguments as they were. No conditions.
-/
import Derived.Test.YteclfchlejocmaaEvH
set_option linter.unusedVariables false
set_option linter.unusedSimpArgs false
namespace Go.Ev
open Go Go.RowKit

variable {P : Program} {w0 : Base} {X D : Nat → Prop} {R : Nat → Option (Nat × Nat)} {st : St} {a : Act} {w : World}
variable {ro : Option Nat} {n : Nat} {o : Oper} {next : Act → World → Prop} {Q : Exit → Act → World → Prop} {ρ : Type} {K : Eff → Option ρ} {r : ρ} {site : Nat} {S : Spec} {RO : Nat → Bool}

theorem inb_spec {x : Int} {len : Nat} (h : inb x len = true) : 0 ≤ x ∧ x < (len : Int) ∧ x.toNat < len := by
  unfold inb at h
  simp only [Bool.and_eq_true, decide_eq_true_eq] at h
  omega

theorem eqGuard_int (op : BinOp) (t : TypeId) (ox oy : Operand) (k k' : IntKind) (x y : Int) : (eqGuard op t ox oy (.int k x) (.int k' y) : Sem Unit).run P w = .ok () w := by cases op <;> simp [eqGuard]
theorem eqGuard_str (op : BinOp) (t : TypeId) (ox oy : Operand) (x y : ByteArray) : (eqGuard op t ox oy (.string x) (.string y) : Sem Unit).run P w = .ok () w := by cases op <;> simp [eqGuard]
theorem bin_sound {op : BinOp} {t : TypeId} {x y : AV} {xv yv : Value} {ox oy : Operand} {K : AV → Option ρ} (hx : VR P D R w x xv) (hy : VR P D R w y yv) (h : bin P op t x y K = some r) :
    ∃ v v', (do eqGuard op t ox oy xv yv; Go.binOp op t xv yv : Sem Value).run P w = .ok v' w ∧ VR P D R w v v' ∧ K v = some r := by
  unfold bin at h
  split at h
  · obtain ⟨hk, h9⟩ := cond_some h
    have := of_decide_eq_true hk
    subst this
    obtain ⟨rfl, hb⟩ := hx.int_inv
    obtain ⟨rfl, _⟩ := hy.int_inv
    obtain ⟨v, v', h1, h2, h3⟩ := binI_sound (P := P) (D := D) (R := R) (w := w) hb h9
    refine ⟨v, v', ?_, h2, h3⟩
    simp only [Sem.run_bind, eqGuard_int, Result.andThen_ok, h1]
  · obtain ⟨rfl, _⟩ := hx.str_inv
    obtain ⟨rfl, _⟩ := hy.str_inv
    obtain ⟨v, v', h1, h2, h3⟩ := binS_sound (P := P) (D := D) (R := R) (w := w) h
    refine ⟨v, v', ?_, h2, h3⟩
    simp only [Sem.run_bind, eqGuard_str, Result.andThen_ok, h1]
  · obtain rfl := hx.bool_inv
    obtain rfl := hy.bool_inv
    split at h
    · rename_i hu
      refine ⟨_, _, ?_, .b, h⟩
      simp [eqGuard, Go.binOp, Op.equal, Op.maxDepth, run_equalIn_bool' w 9999 t _ _ hu]
    · rename_i hu
      refine ⟨_, _, ?_, .b, h⟩
      simp [eqGuard, Go.binOp, Op.equal, Op.maxDepth, run_equalIn_bool' w 9999 t _ _ hu]
    · cases h
  · rename_i xs ys
    obtain ⟨xv', rfl, h1, h2⟩ := hx.agg_inv
    obtain ⟨yv', rfl, h3, h4⟩ := hy.agg_inv
    cases he : eqV P 16 t (.agg xs) (.agg ys) with
    | none => rw [he] at h; cases op <;> simp at h
    | some b =>
      rw [he] at h
      have hr := eqV_sound (P := P) (D := D) (R := R) (w := w) (d' := 10000) (by omega) he hx hy
      cases op <;> simp only at h <;> first | (cases h; done) | skip
      · obtain ⟨hg, h⟩ := cond_some h
        have hg := run_eqGuard_agg w .eql t ox oy xv' yv' (by simpa using hg)
        exact ⟨_, _, by simp only [Sem.run_bind, hg, Result.andThen_ok, run_eql_struct, hr], .b, h⟩
      · obtain ⟨hg, h⟩ := cond_some h
        have hg := run_eqGuard_agg w .neq t ox oy xv' yv' (by simpa using hg)
        exact ⟨_, _, by simp only [Sem.run_bind, hg, Result.andThen_ok, run_neq_struct, hr], .b, h⟩
  · cases h

theorem VR.rs_row {e : TypeId} {es : List (List AV)} {v : Value} (h : VR P D R w (.rs e es) v) {i : Nat} (hi : i < es.length) :
    ∃ b o c, v = .slice (some ⟨b, o, none⟩) es.length c ∧ 0 < P.cellsOf e ∧ VR P D R w (.rp (cts P e) (es.getD i []) 0) (.pointer (some ⟨b, o + i * P.cellsOf e, none⟩)) := by
  cases h with
  | rs0 => simp at hi
  | @rs e es b o c f h1 hz h2 h3 h4 h5 h6 h7 =>
    obtain ⟨g1, g2, g3⟩ : es.length ≤ 9223372036854775807 ∧ (∀ x, x ∈ es → x.length = (cts P e).length) ∧ (∀ x, x ∈ es → ∀ j, j < x.length → WT P ((cts P e).getD j .oth) (x.getD j .u)) := by
      cases h5 with
      | sl a b c => exact ⟨a, b, c⟩
    have hx : es.getD i [] ∈ es := by simp [List.getD_eq_getElem?_getD, List.getElem?_eq_getElem hi]
    have hl : (es.getD i []).length = P.cellsOf e := by rw [g2 _ hx, h3]
    refine ⟨b, o, c, rfl, hz, ?_⟩
    have : VR P D R w (.rp (cts P e) (es.getD i []) 0) (.pointer (some ⟨b, (o + i * P.cellsOf e) + 0, none⟩)) :=
      .rp (f := f i) h4 (by omega) ⟨g2 _ hx, g3 _ hx⟩ (fun k hk => by rw [Nat.add_assoc]; exact h6 i k hi (by omega)) (fun k hk => h7 i k hi (by omega))
    simpa using this

theorem run_indexAt_slice {t e : TypeId} {k : IntKind} {x : Int} {ad : Addr} {len c : Nat} (hu : P.underlying t = some (.slice e)) (h0 : 0 ≤ x) (h1 : x < (len : Int)) (hz : 0 < P.cellsOf e) :
    (Instr.indexAt t (.slice (some ad) len c) (.int k x)).run P w = .ok (.pointer (some (ad.add (x.toNat * P.cellsOf e)))) w := by
  simp [Instr.indexAt, asIntOf, run_underlying' hu, run_sizeOf' hz, h0, h1]

theorem run_fieldPlace {f : Field} {b o : Nat} (hz : 0 < P.cellsOf f.type) : (fieldPlace ⟨b, o, none⟩ f).run P w = .ok ⟨b, o + f.offset, none⟩ w := by
  have : ¬ P.cellsOf f.type = 0 := by omega
  simp [fieldPlace, run_sizeOf' hz, this, add_plain']

theorem run_alloc' {t : TypeId} {i : TypeInfo} {z : Value} (h1 : P.info? t = some i) (h2 : i.zero = some z) :
    (Instr.alloc t true (.tuple #[])).run P w = .ok (.pointer (some ⟨w.heap.size, 0, none⟩)) (w.alloc (.cells z.cells t)) := by
  simp [Instr.alloc, zeroValue, typeInfo, h1, h2, newVar, newRow, newObj, Sem.run]
theorem run_box' {t : TypeId} {v : Value} : (Instr.box t v).run P w = .ok (.pointer (some ⟨w.heap.size, 0, none⟩)) (w.alloc (.cells v.cells t)) := by
  simp [Instr.box, newVar, newRow, newObj, Sem.run]

theorem foldl_set (off : Nat) : ∀ (l : List Value) (j0 : Nat) (arr : Array Value), off + j0 + l.length ≤ arr.size →
    ((l.zipIdx j0).foldl (fun cs (x : Value × Nat) => cs.setIfInBounds (off + x.2) x.1) arr).size = arr.size ∧
    ∀ k, ((l.zipIdx j0).foldl (fun cs (x : Value × Nat) => cs.setIfInBounds (off + x.2) x.1) arr).getD k undef = if off + j0 ≤ k ∧ k < off + j0 + l.length then l.getD (k - (off + j0)) undef else arr.getD k undef
  | [], j0, arr, _ => ⟨by simp, fun k => by
    have : ¬ (off + j0 ≤ k ∧ k < off + j0) := by omega
    simp [this]⟩
  | v :: l, j0, arr, h => by
    simp only [List.length_cons] at h
    obtain ⟨h1, h2⟩ := foldl_set off l (j0 + 1) (arr.setIfInBounds (off + j0) v) (by simp; omega)
    simp only [List.zipIdx_cons, List.foldl_cons]
    refine ⟨by rw [h1]; simp, fun k => ?_⟩
    rw [h2 k]
    by_cases c1 : off + (j0 + 1) ≤ k ∧ k < off + (j0 + 1) + l.length
    · have c2 : off + j0 ≤ k ∧ k < off + j0 + (l.length + 1) := by omega
      simp only [c1, and_self, if_true, List.length_cons, c2]
      rw [show k - (off + j0) = (k - (off + (j0 + 1))) + 1 by omega, List.getD_cons_succ]
    · by_cases c3 : k = off + j0
      · subst c3
        have c2 : off + j0 ≤ off + j0 ∧ off + j0 < off + j0 + (l.length + 1) := by omega
        have c4 : ¬ (off + (j0 + 1) ≤ off + j0 ∧ off + j0 < off + (j0 + 1) + l.length) := by omega
        have c5 : off + j0 < arr.size := by omega
        simp only [c4, if_false, List.length_cons, c2, and_self, if_true]
        simp [Array.getD_eq_getD_getElem?, c5]
      · have c2 : ¬ (off + j0 ≤ k ∧ k < off + j0 + (l.length + 1)) := by omega
        simp only [c1, if_false, List.length_cons, c2]
        simp [Array.getD_eq_getD_getElem?, Array.getElem?_setIfInBounds, Ne.symm c3]

theorem cells_at {v : AV} {u : Value} (h : VR P D R w v u) (hu : v ≠ .u) : u.cells.size = (cellsOf v).length ∧ ∀ k, k < (cellsOf v).length → VR P D R w ((cellsOf v).getD k .u) (u.cells.getD k undef) := by
  have single : cellsOf v = [v] → u.cells = #[u] → u.cells.size = (cellsOf v).length ∧ ∀ k, k < (cellsOf v).length → VR P D R w ((cellsOf v).getD k .u) (u.cells.getD k undef) := by
    intro h1 h2
    rw [h1, h2]
    refine ⟨rfl, fun k hk => ?_⟩
    have : k = 0 := by simpa using hk
    subst this
    simpa using h
  cases h with
  | agg h1 h2 => exact ⟨h1, h2⟩
  | u => exact (hu rfl).elim
  | _ => exact single rfl rfl

theorem fill_sound {pl : Nat → Option (Nat × TypeId)} {pc : Nat → Option (Nat × Nat)} (hpl : ∀ i x, pl i = some x → pc i = some (x.1, P.cellsOf x.2)) :
    ∀ {parts : List (Nat × AV)} {pv : List (Nat × Value)} {cs cs' : List AV} {cv : Array Value}, fill P pl cs parts = some cs' → cv.size = cs.length → (∀ k, k < cs.length → VR P D R w (cs.getD k .u) (cv.getD k undef)) →
      pv.length = parts.length → (∀ k, k < parts.length → (pv.getD k (0, undef)).1 = (parts.getD k (0, .u)).1 ∧ VR P D R w (parts.getD k (0, .u)).2 (pv.getD k (0, undef)).2) →
      ∃ cv', Instr.fill pc cv pv = some cv' ∧ cv'.size = cs'.length ∧ ∀ k, k < cs'.length → VR P D R w (cs'.getD k .u) (cv'.getD k undef)
  | [], pv, cs, cs', cv, h, hs, hv, hl, _ => by
    obtain rfl : pv = [] := by simpa using hl
    simp only [fill, Option.some.injEq] at h
    subst h
    exact ⟨cv, rfl, hs, hv⟩
  | (i, v) :: parts, pv, cs, cs', cv, h, hs, hv, hl, hp => by
    match pv, hl with
    | (i', u) :: pv, hl =>
      obtain ⟨e1, e3⟩ := hp 0 (by simp)
      simp only [List.getD_cons_zero] at e1 e3
      subst e1
      simp only [fill] at h
      cases hpi : pl i' with
      | none => simp [hpi] at h
      | some x =>
        obtain ⟨off, t⟩ := x
        simp only [hpi] at h
        obtain ⟨hc, h⟩ := cond_some h
        simp only [Bool.and_eq_true] at hc
        have e2 : v ≠ .u := fun e => by have := hc.1.1; rw [e] at this; cases this
        have hc1 := Nat.eq_of_beq_eq_true hc.1.2
        have hc2 : off + (cellsOf v).length ≤ cs.length := Nat.le_of_ble_eq_true hc.2
        obtain ⟨q1, q2⟩ := cells_at e3 e2
        have hpc := hpl _ _ hpi
        simp only at hpc
        obtain ⟨f1, f2⟩ := foldl_set off u.cells.toList 0 cv (by simp; omega)
        simp only [Nat.add_zero] at f2
        have hfold : u.cells.zipIdx.foldl (fun cs (x : Value × Nat) => cs.setIfInBounds (off + x.2) x.1) cv = (u.cells.toList.zipIdx 0).foldl (fun cs (x : Value × Nat) => cs.setIfInBounds (off + x.2) x.1) cv := by
          rw [← Array.foldl_toList]
          simp
        obtain ⟨cv', g1, g2, g3⟩ := fill_sound hpl (pv := pv) (cv := u.cells.zipIdx.foldl (fun cs (x : Value × Nat) => cs.setIfInBounds (off + x.2) x.1) cv) h
          (by rw [hfold, f1]; simp only [splice, List.length_append, List.length_take, List.length_drop]; omega)
          (fun k hk => by
            rw [hfold, f2 k]
            simp only [splice, List.getD_eq_getElem?_getD, splice_get _ _ _ _ hc2]
            by_cases c1 : k < off
            · have c2 : ¬ (off ≤ k ∧ k < off + u.cells.toList.length) := by omega
              simp only [c1, if_true, c2, if_false]
              simpa [List.getD_eq_getElem?_getD] using hv k (by omega)
            · by_cases c3 : k < off + (cellsOf v).length
              · have c2 : off ≤ k ∧ k < off + u.cells.toList.length := by simp; omega
                simp only [c1, if_false, c3, if_true, c2, and_self]
                have := q2 (k - off) (by omega)
                simpa [List.getD_eq_getElem?_getD, Array.getD_eq_getD_getElem?] using this
              · have c2 : ¬ (off ≤ k ∧ k < off + u.cells.toList.length) := by simp; omega
                simp only [c1, if_false, c3, c2]
                have hk' : k < cs.length := by
                  simp only [splice, List.length_append, List.length_take, List.length_drop] at hk
                  omega
                simpa [List.getD_eq_getElem?_getD] using hv k hk')
          (by simpa using hl) (fun k hk => by simpa using hp (k + 1) (by simpa using hk))
        refine ⟨cv', ?_, g2, g3⟩
        have hno : ¬ (u.cells.size ≠ P.cellsOf t || decide (off + u.cells.size > cv.size)) = true := by
          simp only [Bool.or_eq_true, decide_eq_true_eq, not_or]
          omega
        simp only [Instr.fill, hpc]
        rw [if_neg (by simpa using hno)]
        exact g1

theorem fill_length {pl : Nat → Option (Nat × TypeId)} : ∀ {parts : List (Nat × AV)} {cs cs' : List AV}, fill P pl cs parts = some cs' → cs'.length = cs.length
  | [], cs, cs', h => by simp only [fill, Option.some.injEq] at h; rw [h]
  | (i, v) :: parts, cs, cs', h => by
    simp only [fill] at h
    cases hpi : pl i with
    | none => simp [hpi] at h
    | some x =>
      obtain ⟨off, t⟩ := x
      simp only [hpi] at h
      obtain ⟨hc, h⟩ := cond_some h
      simp only [Bool.and_eq_true] at hc
      have hc2 : off + (cellsOf v).length ≤ cs.length := Nat.le_of_ble_eq_true hc.2
      rw [fill_length h]
      simp [splice]; omega
theorem chunk_rows {all : List CT} {sz : Nat} (hall : all.length = sz) : ∀ {n : Nat} {cs : List AV} {es : List (List AV)} {cv : List Value}, fitRows all (chunk sz n cs) = some es → cs.length = n * sz → cv.length = cs.length → (∀ k, k < cs.length → VR P D R w (cs.getD k .u) (cv.getD k undef)) →
    es.length = n ∧ (∀ x, x ∈ es → WTs P all x) ∧ ∀ i j, i < n → j < sz → VR P D R w ((es.getD i []).getD j .u) (cv.getD (i * sz + j) undef)
  | 0, cs, es, cv, h, hc, hl, hv => by
    simp only [chunk, fitRows, Option.some.injEq] at h
    subst h
    exact ⟨rfl, fun x hx => by simp at hx, fun i j hi => by omega⟩
  | n + 1, cs, es, cv, h, hc, hl, hv => by
    simp only [chunk, fitRows] at h
    rw [Nat.add_mul, Nat.one_mul] at hc
    cases h1 : fitCs all (cs.take sz) with
    | none => simp [h1] at h
    | some x =>
      cases h2 : fitRows all (chunk sz n (cs.drop sz)) with
      | none => simp [h1, h2] at h
      | some es' =>
        simp only [h1, h2, Option.some.injEq] at h
        subst h
        obtain ⟨f1, f2, f3, _⟩ := fitCs_sound (P := P) (D := D) (R := R) (w := w) (cv := cv.take sz) h1 (by simp; omega) (fun k hk => by
          simp only [List.length_take] at hk
          have := hv k (by omega)
          have hk2 : k < sz := by omega
          simpa [List.getD_eq_getElem?_getD, List.getElem?_take, hk2] using this)
        obtain ⟨g1, g2, g3⟩ := chunk_rows hall (cv := cv.drop sz) h2 (by simp; omega) (by simp; omega) (fun k hk => by
          simp only [List.length_drop] at hk
          have := hv (sz + k) (by omega)
          simpa [List.getD_eq_getElem?_getD, List.getElem?_drop] using this)
        have hxl : x.length = sz := by rw [f2]; simp; omega
        refine ⟨by simp [g1], fun y hy => ?_, fun i j hi hj => ?_⟩
        · rcases List.mem_cons.1 hy with rfl | hy
          · exact f1
          · exact g2 y hy
        · cases i with
          | zero =>
            have := f3 j (by omega)
            simpa [List.getD_eq_getElem?_getD, List.getElem?_take, hj] using this
          | succ i =>
            have := g3 i j (by omega) hj
            rw [Nat.add_mul, Nat.one_mul]
            simpa [List.getD_eq_getElem?_getD, List.getElem?_drop, Nat.add_assoc, Nat.add_comm, Nat.add_left_comm] using this

theorem getD_flat {α : Type} (z : List α) (d : α) : ∀ (n k : Nat), k < n * z.length → ((List.replicate n z).flatten).getD k d = z.getD (k % z.length) d
  | 0, k, h => by omega
  | n + 1, k, h => by
    rw [Nat.add_mul, Nat.one_mul] at h
    rw [List.replicate_succ, List.flatten_cons]
    by_cases hk : k < z.length
    · rw [Nat.mod_eq_of_lt hk]
      simp [List.getD_eq_getElem?_getD, List.getElem?_append, hk]
    · have := getD_flat z d n (k - z.length) (by omega)
      rw [Nat.mod_eq_sub_mod (by omega), ← this]
      simp [List.getD_eq_getElem?_getD, List.getElem?_append, hk]

/-- A new slice. -/
theorem freshRow_sound (h : SR P w0 X D R st a w) (hf : R site = none) (hb : ∀ x, o.dst = some x → x < st.nt) (hn : After P w0 X D R st a w o site K r next) (hd : ∀ c, o.op ≠ .defer c)
    {e : TypeId} {es : List (List AV)} {cv : Array Value} {c : Nat} (hc : es.length ≤ c) (hW : ∀ x, x ∈ es → WTs P (cts P e) x) (hs : es.length * P.cellsOf e ≤ cv.size)
    (hv : ∀ i j, i < es.length → j < P.cellsOf e → VR P D R w ((es.getD i []).getD j .u) (cv.getD (i * P.cellsOf e + j) undef))
    (hr : (execOp a.eval o).run P w = .ok (.value (.slice (some ⟨w.heap.size, 0, none⟩) es.length c)) (w.alloc (.cells cv e)))
    (he : freshRow P RO site o.dst e es K = some r) : o.wpIn (FW ro) n P a w next Q := by
  unfold freshRow at he
  obtain ⟨ho, he⟩ := cond_some he
  simp only [Bool.and_eq_true] at ho
  obtain ⟨ho, hlen⟩ := ho
  have hlen : es.length ≤ 9223372036854775807 := Nat.le_of_ble_eq_true hlen
  obtain ⟨h1, h2, _⟩ := okT_spec ho
  have hWT : WT P (.sl e) (.rs e es) := .sl hlen (fun x hx => (hW x hx).1) (fun x hx j hj => (hW x hx).2 j hj)
  have hidx : ∀ i j, i < es.length → j < P.cellsOf e → i * P.cellsOf e + j < cv.size := fun i j hi hj => by
    have := Nat.mul_le_mul_right (P.cellsOf e) (show i + 1 ≤ es.length by omega)
    rw [Nat.add_mul, Nat.one_mul] at this
    omega
  cases hro : (o.dst.map RO).getD false || es.isEmpty with
  | true =>
    rw [hro] at he
    have h' := h.world (below_alloc' w (.cells cv e))
    have hp : VR P D R (w.alloc (.cells cv e)) (.rs e es) (.slice (some ⟨w.heap.size, 0, none⟩) es.length c) := by
      cases es with
      | nil => exact .rs0
      | cons x l =>
        refine .rs (f := fun i j => cv.getD (i * P.cellsOf e + j) undef) (by simp) h2 hc h1 (fun hd => absurd (h.lt _ hd) (by omega)) hWT (fun i j hi hj => ?_) (fun i j hi hj => (hv i j hi hj).mono (fun _ _ e => e) (fun b hlt hd => ⟨hd, (below_alloc' w _).block b hlt⟩))
        have := hidx i j hi hj
        simp [World.cell?_alloc_new, Array.getD_eq_getD_getElem?, this]
    exact wpIn_value hd hr (hn D R ⟨_, none⟩ _ _ (h'.put hb hp) ⟨fun _ _ => rfl, fun b hlt hd => ⟨hd, (below_alloc' w _).block b hlt⟩, fun b hd _ => (below_alloc' w _).block b (h.lt b hd)⟩ he)
  | false =>
    rw [hro] at he
    have h' := h.fresh (t := e) (es := es) (cv := cv) hf h1 h2 hs hWT (fun i j hi hj => by
      have := hidx i j hi hj
      exact ⟨cv.getD (i * P.cellsOf e + j) undef, by simp [Array.getD_eq_getD_getElem?, this], hv i j hi hj⟩)
    have hp : VR P (fun b => D b ∨ b = w.heap.size) (fun id => if id = site then some (w.heap.size, P.cellsOf e) else R id) (w.alloc (.cells cv e)) (.sl site 0 es.length) (.slice (some ⟨w.heap.size, 0, none⟩) es.length c) := by
      have : VR P (fun b => D b ∨ b = w.heap.size) (fun id => if id = site then some (w.heap.size, P.cellsOf e) else R id) (w.alloc (.cells cv e)) (.sl site 0 es.length) (.slice (some ⟨w.heap.size, 0 * P.cellsOf e, none⟩) es.length c) := .sl (by simp) hc hlen
      simpa using this
    exact wpIn_value hd hr (hn _ _ ⟨_, some (site, .row e es)⟩ _ _ (h'.put hb hp) ⟨fun id hid => by simp [hid], fun b hlt hd => ⟨fun e => by
      rcases e with e | e
      · exact hd e
      · omega, (below_alloc' w _).block b hlt⟩, fun b hd _ => (below_alloc' w _).block b (h.lt b hd)⟩ he)
end Go.Ev
