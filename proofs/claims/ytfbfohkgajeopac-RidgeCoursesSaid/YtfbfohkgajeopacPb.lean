/-
  The evaluator, its soundness, and the functions that several laws reach: what they compute, for all arguments; no conditions.
-/
import Derived.Test.YtfbfohkgajeopacPa
import Derived.Carry
import Derived.OrdersIn
import Derived.RangeFuncNested
set_option linter.unusedVariables false
set_option linter.unusedVariables false
set_option linter.unusedSimpArgs false
namespace Go.Ev
open Go Go.RowKit

variable {P : Program} {w0 : Base} {X D : Nat → Nat → Prop} {R : Nat → Option (Nat × Nat × Nat)} {st : St} {a : Act} {w : World}
variable {ro : Option Nat} {n : Nat} {o : Oper} {next : Act → World → Prop} {Q : Exit → Act → World → Prop} {ρ : Type} {K : Eff → Option ρ} {r : ρ} {site : Nat} {S : Spec} {RO : Nat → Bool}

theorem over_length {off len : Nat} {ys es : List (List AV)} (hf : off + len ≤ es.length) : (over off len ys es).length = es.length := by
  simp only [over, List.length_append, List.length_take, List.length_drop]
  omega
theorem over_getD {off len : Nat} {ys es : List (List AV)} (hf : off + len ≤ es.length) (k : Nat) :
    (over off len ys es).getD k [] = if off ≤ k ∧ k < off + min len ys.length then ys.getD (k - off) [] else es.getD k [] := by
  simp only [over, List.getD_eq_getElem?_getD, List.getElem?_append, List.length_take, List.getElem?_take, List.getElem?_drop]
  by_cases h1 : k < off
  · rw [if_pos (by omega), if_pos h1, if_neg (by omega)]
  · by_cases h2 : k < off + min len ys.length
    · rw [if_neg (by omega), if_pos (by omega), if_pos (by omega), if_pos (by omega)]
      congr 2; omega
    · rw [if_neg (by omega), if_neg (by omega), if_neg (by omega)]
      congr 2; omega
theorem over_mem {off len : Nat} {ys es : List (List AV)} {x : List AV} (h : x ∈ over off len ys es) : x ∈ ys ∨ x ∈ es := by
  simp only [over, List.mem_append] at h
  rcases h with h | h | h
  · exact .inr (List.mem_of_mem_take h)
  · exact .inl (List.mem_of_mem_take h)
  · exact .inr (List.mem_of_mem_drop h)
theorem SR.same (h : SR P w0 X D R st a w) {id : Nat} {blk : Blk} (hb : gm st.m id = blk) : SR P w0 X D R (st.mem id blk) a w := by
  have e : ∀ i, gm (st.mem id blk).m i = gm st.m i := fun i => by
    simp only [St.mem, gm_cons]
    split
    · rename_i hi; rw [hi, hb]
    · rfl
  exact ⟨h.tmp, h.nt, fun i => by rw [e]; exact h.mem i, h.own, fun i b s et o h1 h2 h3 => h.fx i b s et o h1 h2 (by rw [← e]; exact h3), fun i b s o h1 h2 => h.dom i b s o h1 (by rw [← e]; exact h2),
    fun i i' b s s' h1 h2 h3 h4 h5 h6 => h.inj i i' b s s' h1 h2 h3 h4 (by rw [← e]; exact h5) (by rw [← e]; exact h6), fun i b s h1 h2 => h.nz i b s h1 (fun o => by rw [← e]; exact h2 o), h.X, h.lt, h.old, h.df⟩
theorem SR.overlay (h : SR P w0 X D R st a w) {id off len : Nat} {e : TypeId} {es ys : List (List AV)} {nv : List Value} {b : Nat} {cells : Array Value} {ty : TypeId}
    (hm : gm st.m id = .row e es) (h1 : P.cellsOf e = 1) (hR : R id = some (b, P.cellsOf e, 0)) (hh : w.heap[b]? = some (.cells cells ty (0, 0))) (hne : es ≠ []) (hf : off + len ≤ es.length)
    (hW : ∀ x, x ∈ ys → x.length = 1 ∧ WT P ((cts P e).getD 0 .oth) (x.getD 0 .u)) (hl : nv.length = min len ys.length) (hv : ∀ k, k < nv.length → VR P D R w ((ys.getD k []).getD 0 .u) (nv.getD k undef)) :
    SR P w0 X D R (st.mem id (.row e (over off len ys es))) a (w.setRow b (cells.toList.take off ++ nv ++ cells.toList.drop (off + nv.length)).toArray) := by
  generalize hw' : w.setRow b (cells.toList.take off ++ nv ++ cells.toList.drop (off + nv.length)).toArray = w'
  have hother : ∀ k, k ≠ b → w'.heap[k]? = w.heap[k]? := fun k hk => by rw [← hw']; exact setRow_other w b k _ hk
  have hrow0 := h.mem id
  rw [hm] at hrow0
  obtain ⟨b', cells', ty', g1, g2, g3, g4, g5, g6, g7⟩ := hrow0 hne
  rw [hR] at g1
  obtain rfl : b = b' := by simpa using g1
  rw [hh] at g2
  obtain ⟨rfl, rfl⟩ : cells = cells' ∧ ty = ty' := by simpa using g2
  obtain ⟨hlen, hrow, hcell⟩ : es.length ≤ 9223372036854775807 ∧ (∀ x, x ∈ es → x.length = (cts P e).length) ∧ (∀ x, x ∈ es → ∀ j, j < x.length → WT P ((cts P e).getD j .oth) (x.getD j .u)) := by
    cases g6 with
    | sl a b c => exact ⟨a, b, c⟩
  rw [h1] at g3 g5 g7
  have hcs : es.length ≤ cells.size := by simpa using g5
  have hs' : (cells.toList.take off ++ nv ++ cells.toList.drop (off + nv.length)).length = cells.size := by
    simp; omega
  have hw'b : w'.heap[b]? = some (.cells (cells.toList.take off ++ nv ++ cells.toList.drop (off + nv.length)).toArray ty (0, 0)) := by
    rw [← hw']; exact setRow_heap w b cells _ ty _ hh
  have hkind : (alive (gm st.m id) = true ∧ ∀ o, owns P (gm st.m id) (P.cellsOf e, 0) o) := by
    rw [hm]; exact ⟨rfl, fun _ => trivial⟩
  refine h.rewrite hR (by simp; omega) hkind.1 hkind.2 hother (by rw [← hw']; simp) (by rw [← hw']; rfl) (by rw [← hw']; rfl) (by rw [← hw']; rfl) (fun _ h => by cases h) fun mono => ?_
  intro _
  refine ⟨b, _, ty, hR, hw'b, by rw [h1]; exact g3, g4, by rw [List.size_toArray, hs', over_length hf, h1]; omega, .sl (by rw [over_length hf]; exact hlen) (fun x hx => ?_) (fun x hx k hk => ?_), fun i j hi hj => ?_⟩
  · rcases over_mem hx with hx | hx
    · rw [(hW x hx).1, g3]
    · exact hrow x hx
  · rcases over_mem hx with hx | hx
    · obtain rfl : k = 0 := by have := (hW x hx).1; omega
      exact (hW x hx).2
    · exact hcell x hx k hk
  · obtain rfl : j = 0 := by omega
    rw [over_length hf] at hi
    rw [h1, Nat.mul_one, Nat.add_zero, List.getElem?_toArray, splice_get _ _ _ _ (by simp; omega), over_getD hf]
    by_cases hc : off ≤ i ∧ i < off + min len ys.length
    · rw [if_pos hc, if_neg (by omega), if_pos (by omega)]
      have := hv (i - off) (by omega)
      refine ⟨nv.getD (i - off) undef, ?_, mono this⟩
      have : i - off < nv.length := by omega
      simp [List.getD_eq_getElem?_getD, this]
    · rw [if_neg hc]
      obtain ⟨v, q1, q2⟩ := g7 i 0 hi (by omega)
      refine ⟨v, ?_, mono q2⟩
      rw [← q1]
      by_cases h2 : i < off
      · rw [if_pos h2]; simp
      · rw [if_neg h2, if_neg (by omega)]; simp
theorem srcOf_spec (h : SR P w0 X D R st a w) {id : Nat} {e : TypeId} {es ys : List (List AV)} {y : AV} {yv : Value} (hm : gm st.m id = .row e es) (h1 : P.cellsOf e = 1) (hs : srcOf id e es y = some ys) (hy : VR P D R w y yv) :
    ∃ ad sc, yv = .slice ad ys.length sc ∧ ys.length ≤ 9223372036854775807 ∧ (∀ x, x ∈ ys → x.length = 1 ∧ WT P ((cts P e).getD 0 .oth) (x.getD 0 .u)) ∧
      (ys ≠ [] → ∃ c : Addr, ad = some c ∧ ∀ j, j < ys.length → ∃ v, w.cell? (c.add j) = some v ∧ VR P D R w ((ys.getD j []).getD 0 .u) v) := by
  have row : ∀ {zs : List (List AV)}, (cts P e).length = P.cellsOf e → WT P (.sl e) (.rs e zs) → zs.length ≤ 9223372036854775807 ∧ ∀ x, x ∈ zs → x.length = 1 ∧ WT P ((cts P e).getD 0 .oth) (x.getD 0 .u) := fun hc hW => by
    cases hW with
    | sl q1 q2 q3 => exact ⟨q1, fun x hx => ⟨by rw [q2 x hx, hc, h1], q3 x hx 0 (by rw [q2 x hx, hc, h1]; omega)⟩⟩
  have adr : ∀ (b o j : Nat), (⟨b, o, none⟩ : Addr).add j = ⟨b, o + j, none⟩ := fun b o j => by unfold Addr.add; split <;> simp_all
  have empty : ∀ {ad sc}, yv = .slice ad 0 sc → ys = [] → ∃ ad sc, yv = .slice ad ys.length sc ∧ ys.length ≤ 9223372036854775807 ∧ (∀ x, x ∈ ys → x.length = 1 ∧ WT P ((cts P e).getD 0 .oth) (x.getD 0 .u)) ∧
      (ys ≠ [] → ∃ c : Addr, ad = some c ∧ ∀ j, j < ys.length → ∃ v, w.cell? (c.add j) = some v ∧ VR P D R w ((ys.getD j []).getD 0 .u) v) := by
    rintro ad sc rfl rfl
    exact ⟨ad, sc, rfl, by simp, by simp, by simp⟩
  unfold srcOf at hs
  split at hs
  · cases hs
    cases hy
    exact empty rfl rfl
  · obtain ⟨he, hs2⟩ := cond_some hs
    clear hs
    obtain rfl := Nat.eq_of_beq_eq_true he
    cases hs2
    cases hy with
    | rs0 => exact empty rfl rfl
    | @rs _ _ b o c f q1 q2 q3 q4 q5 q6 q7 q8 =>
      obtain ⟨r1, r2⟩ := row q4 q6
      refine ⟨_, _, rfl, r1, r2, fun _ => ⟨_, rfl, fun j hj => ⟨f j 0, ?_, q8 j 0 hj q2⟩⟩⟩
      have := q7 j 0 hj q2
      rw [adr]
      simpa [h1] using this
  · obtain ⟨he, hs2⟩ := cond_some hs
    clear hs
    obtain rfl := Nat.eq_of_beq_eq_true he
    cases hs2
    cases hy with
    | gv0 => exact empty rfl rfl
    | @gv _ _ _ b c f q1 q2 q3 q4 q5 q6 q7 q8 =>
      obtain ⟨r1, r2⟩ := row q4 q6
      refine ⟨_, _, rfl, r1, r2, fun _ => ⟨_, rfl, fun j hj => ⟨f j 0, ?_, q8 j 0 hj q2⟩⟩⟩
      have := q7 j 0 hj q2
      rw [adr]
      simpa [h1] using this
  · rename_i id' off len
    obtain ⟨he, hs2⟩ := cond_some hs
    clear hs
    obtain ⟨he, hf⟩ := Bool.and_eq_true_iff.1 he
    obtain rfl := Nat.eq_of_beq_eq_true he
    have hf := Nat.le_of_ble_eq_true hf
    cases hs2
    cases hy with
    | sl0 => exact empty rfl (by simp)
    | @sl _ _ _ b sz c hR hle hlm =>
      by_cases hes : es = []
      · have : len = 0 := by rw [hes] at hf; simp at hf; omega
        subst this
        exact empty rfl (by simp)
      · have hrow := h.mem id
        rw [hm] at hrow
        obtain ⟨b', cells, ty, m1, m2, m3, m4, m5, m6, m7⟩ := hrow hes
        rw [hR] at m1
        obtain ⟨rfl, rfl⟩ : b = b' ∧ sz = P.cellsOf e := by simpa using m1
        obtain ⟨r1, r2⟩ := row m3 m6
        have hlen : ((es.drop off).take len).length = len := by simp; omega
        refine ⟨_, _, by rw [hlen], by rw [hlen]; exact hlm, fun x hx => r2 x (List.mem_of_mem_drop (List.mem_of_mem_take hx)), fun _ => ⟨_, rfl, fun j hj => ?_⟩⟩
        rw [hlen] at hj
        obtain ⟨v, q1, q2⟩ := m7 (off + j) 0 (by omega) m4
        refine ⟨v, ?_, ?_⟩
        · rw [adr, h1, Nat.mul_one]
          rw [h1] at q1
          simpa [World.cell?, m2] using q1
        · have : (List.take len (List.drop off es)).getD j [] = es.getD (off + j) [] := by
            simp [List.getD_eq_getElem?_getD, List.getElem?_take, List.getElem?_drop, hj]
          rw [this]; exact q2
  · cases hs
theorem copy_sound (h : SR P w0 X D R st a w) (hb : ∀ x, o.dst = some x → x < st.nt) (hn : After P w0 X D R st a w o site K r next) (hd : ∀ c, o.op ≠ .defer c)
    {t t' : TypeId} {id off len : Nat} {y : AV} {xv yv : Value} (hx : VR P D R w (.sl id off len) xv) (hy : VR P D R w y yv)
    (hr : ∀ v w', (Builtin.copy_ #[t, t'] o.type #[xv, yv]).run P w = .ok v w' → (execOp a.eval o).run P w = .ok (.value v) w')
    (he : copyV P st t id off len y K = some r) : o.wpIn (FW ro) n P a w next Q := by
  unfold copyV at he
  split at he <;> first | (cases he; done) | skip
  rename_i e e' es hu hm
  rw [srcK_eq] at he
  split at he <;> first | (cases he; done) | skip
  rename_i ys hs
  obtain ⟨hc, he2⟩ := cond_some he
  clear he
  simp only [Bool.and_eq_true] at hc
  obtain ⟨hee, h1, ho, hno, hf⟩ := hc
  obtain rfl := Nat.eq_of_beq_eq_true hee
  have h1 : P.cellsOf e = 1 := Nat.eq_of_beq_eq_true h1
  have hf := Nat.le_of_ble_eq_true hf
  obtain ⟨ad, sc, rfl, hyl, hyW, hys⟩ := srcOf_spec h hm h1 hs hy
  have hinf : (P.info? e).map (·.size) = some 1 := by
    unfold Program.cellsOf at h1
    cases hi : P.info? e with
    | none => rw [hi] at h1; simp at h1
    | some i => rw [hi] at h1; simpa using h1
  by_cases h0 : min len ys.length = 0
  · have hover : over off len ys es = es := by
      unfold over
      have : ys.take len = [] := by
        rw [List.take_eq_nil_iff]
        by_cases hy0 : ys = []
        · exact .inr hy0
        · exact .inl (by have := List.length_pos_iff.2 hy0; omega)
      rw [this, h0]; simp
    have hxv : ∃ xa xc, xv = .slice xa len xc := by
      cases hx with
      | sl0 => exact ⟨_, _, rfl⟩
      | sl => exact ⟨_, _, rfl⟩
    obtain ⟨xa, xc, rfl⟩ := hxv
    have hrun : (Builtin.copy_ #[t, t'] o.type #[.slice xa len xc, .slice ad ys.length sc]).run P w = .ok (goInt 0) w := by
      cases hq : P.info? e with
      | none => simp [hq] at hinf
      | some i =>
        have hn0 : ys.length.min len = 0 := by have : ys.length.min len = min ys.length len := rfl; omega
        cases xa <;> cases ad <;> simp [Builtin.copy_, run_underlying hu, Builtin.lenOf, Builtin.firstCells, sizeOf, typeInfo, hq, hn0, storeCells, loadCells, loadCellsFrom]
    refine wpIn_value hd (hr _ _ hrun) (hn D R ⟨_, some (id, _)⟩ _ _ ((h.same (blk := .row e (over off len ys es)) (by rw [hover]; exact hm)).put hb ?_) .refl he2)
    rw [h0]
    exact .i (by simp [IntKind.min, IntKind.signed, IntKind.bits]) (by simp [IntKind.max, IntKind.signed, IntKind.bits])
  · have hyne : ys ≠ [] := by rintro rfl; simp at h0
    have hne : es ≠ [] := by rintro rfl; simp at hf; omega
    obtain ⟨c, rfl, hcell⟩ := hys hyne
    have hrow := h.mem id
    rw [hm] at hrow
    obtain ⟨b, cells, ty, m1, m2, m3, m4, m5, m6, m7⟩ := hrow hne
    have hxv : ∃ xc, xv = .slice (some ⟨b, off, none⟩) len xc := by
      cases hx with
      | sl0 => simp at h0
      | @sl _ _ _ b' sz c' hR hle hlm =>
        rw [hR] at m1
        obtain ⟨rfl, rfl⟩ : b' = b ∧ sz = P.cellsOf e := by simpa using m1
        exact ⟨_, by rw [h1, Nat.mul_one]⟩
    obtain ⟨xc, rfl⟩ := hxv
    have hch : ∃ f : Nat → Value, ∀ j, j < ys.length → w.cell? (c.add j) = some (f j) ∧ VR P D R w ((ys.getD j []).getD 0 .u) (f j) :=
      ⟨fun j => if hj : j < ys.length then (hcell j hj).choose else undef, fun j hj => by simp only [hj, dif_pos]; exact (hcell j hj).choose_spec⟩
    obtain ⟨f, hfc⟩ := hch
    let nv := (List.range (min len ys.length)).map f
    have hnl : nv.length = min len ys.length := by simp [nv]
    have hng : ∀ k, k < nv.length → nv[k]? = some (f k) := fun k hk => by
      rw [hnl] at hk
      simp [nv, hk]
    have hone : ∀ v ∈ nv, v.oneCell' = true := by
      intro v hv
      obtain ⟨k, hk, rfl⟩ := List.mem_map.1 hv
      have hk : k < min len ys.length := by simpa using hk
      have hmem : ys.getD k [] ∈ ys := by simp [List.getD_eq_getElem?_getD, List.getElem?_eq_getElem (show k < ys.length by omega)]
      exact oneCell_of (noOth_cell hno (by rw [m3, h1]; omega)) (hyW _ hmem).2 (hfc k (by omega)).2
    have hrun := run_copy_row P w t t' o.type e b off len xc c ys.length sc cells ty nv hu hinf m2 (by rw [hnl]; exact Nat.min_comm _ _) (fun j v hj => by
      have hjl : j < nv.length := (List.getElem?_eq_some_iff.1 hj).1
      rw [hng j hjl] at hj
      obtain rfl : f j = v := by simpa using hj
      exact (hfc j (by omega)).1) (by rw [h1] at m5; omega) hone
    refine wpIn_value hd (hr _ _ hrun) (hn D R ⟨_, some (id, _)⟩ _ _ ((h.overlay hm h1 m1 m2 hne hf hyW hnl (fun k hk => ?_)).put hb ?_) .refl he2)
    · have := (hfc k (by omega)).2
      rw [List.getD_eq_getElem?_getD (l := nv), hng k hk]
      exact this
    · rw [hnl]
      exact .i (by simp [IntKind.min, IntKind.signed, IntKind.bits] <;> omega) (by simp [IntKind.max, IntKind.signed, IntKind.bits] <;> omega)
end Go.Ev

set_option linter.unusedVariables false
set_option linter.unusedSimpArgs false
namespace Go.Ev
open Go Go.RowKit

variable {P : Program} {w0 : Base} {X D : Nat → Nat → Prop} {R : Nat → Option (Nat × Nat × Nat)} {st : St} {a : Act} {w : World}
variable {ro : Option Nat} {n : Nat} {o : Oper} {next : Act → World → Prop} {Q : Exit → Act → World → Prop} {ρ : Type} {K : Eff → Option ρ} {r : ρ} {site : Nat} {S : Spec} {RO : Nat → Bool}

theorem app_at {l1 l2 : List AV} {v1 v2 : List Value} (hl : v1.length = l1.length) (h1 : ∀ k, k < l1.length → VR P D R w (l1.getD k .u) (v1.getD k undef)) (h2 : ∀ k, k < l2.length → VR P D R w (l2.getD k .u) (v2.getD k undef)) :
    ∀ k, k < (l1 ++ l2).length → VR P D R w ((l1 ++ l2).getD k .u) ((v1 ++ v2).getD k undef) := by
  intro k hk
  simp only [List.length_append] at hk
  by_cases h : k < l1.length
  · have := h1 k h
    simpa [List.getD_eq_getElem?_getD, List.getElem?_append_left h, List.getElem?_append_left (show k < v1.length by omega)] using this
  · have := h2 (k - l1.length) (by omega)
    simpa [List.getD_eq_getElem?_getD, List.getElem?_append_right (show l1.length ≤ k by omega), List.getElem?_append_right (show v1.length ≤ k by omega), hl] using this
theorem numOf_spec (h : SR P w0 X D R st a w) {d : Int} {y : Option Operand} {k : IntKind} {l : Int} (hl : numOf st d y = .i k l) : (y.map a.eval = none ∧ l = d) ∨ ∃ k, y.map a.eval = some (.int k l) := by
  cases y with
  | none => simp only [numOf, AV.i.injEq] at hl; exact .inl ⟨rfl, hl.2.symm⟩
  | some y =>
    have := h.val y
    simp only [numOf] at hl
    rw [hl] at this
    exact .inr ⟨k, by rw [Option.map_some, this.int_inv.1]⟩
theorem run_bounds {isSlice : Bool} {len cap : Nat} {lo hi : Option Value} {l q : Int} (hlo : (lo = none ∧ l = 0) ∨ ∃ k, lo = some (.int k l)) (hhi : (hi = none ∧ q = (len : Int)) ∨ ∃ k, hi = some (.int k q))
    (h0 : 0 ≤ l) (h1 : l ≤ q) (h2 : q ≤ (len : Int)) (hc : len ≤ cap) : (Instr.sliceBounds isSlice len cap lo hi none).run P w = .ok (l.toNat, q.toNat, cap) w := by
  have eq : (q.toNat : Int) = q := Int.toNat_of_nonneg (by omega)
  have hq0 : 0 ≤ q := by omega
  have hqc : q ≤ (cap : Int) := by omega
  rcases hlo with ⟨rfl, rfl⟩ | ⟨k, rfl⟩ <;> rcases hhi with ⟨rfl, rfl⟩ | ⟨k', rfl⟩ <;>
    simp [Instr.sliceBounds, Instr.sliceBound, asIntOf, h0, h1, hq0, hqc, eq]

theorem minmax_sound {mx : Bool} {c : Call} (h : SR P w0 X D R st a w) (hb : ∀ x, o.dst = some x → x < st.nt) (hn : After P w0 X D R st a w o site K r next) (hd : ∀ c, o.op ≠ .defer c)
    (hop : o.op = .call c) (hc : c.callee = .builtin (if mx then .max else .min))
    (hresb : ∀ b, c.callee = .builtin b → ∃ cs, (resolve a.eval c o.type).run P w = .ok { target := .builtin b c.argTypes o.type cs, args := c.args.map a.eval } w)
    (he : (match c.args.toList.map (val st) with
      | x :: r => match best (if mx then bmax else bmin) x r with
        | some v => K ⟨v, none⟩
        | none => none
      | [] => none) = some r) : o.wpIn (FW ro) n P a w next Q := by
  have hargs := args_at h c.args.toList
  split at he <;> first | (cases he; done) | skip
  rename_i x l hl
  split at he <;> first | (cases he; done) | skip
  rename_i v hbest
  have hlen : c.args.toList.length = l.length + 1 := by have := congrArg List.length hl; simpa using this
  match hcl : c.args.toList, hlen with
  | y :: ys, hlen =>
    rw [hcl] at hl hargs
    simp only [List.map_cons, List.cons.injEq] at hl
    obtain ⟨e1, e2⟩ := hl
    obtain ⟨u, g1, g2⟩ := best_sound (P := P) (D := D) (R := R) (w := w) (mx := mx) (lv := ys.map a.eval) hbest (e1 ▸ h.val y) (by simpa using hlen) (fun k hk => by
      have := hargs (k + 1) (by simp at hlen ⊢; omega)
      rw [← e2]
      simpa using this)
    refine op_value h hb hn hd (v' := u) ?_ g2 he
    obtain ⟨csb, hrb⟩ := hresb _ hc
    simp only [execOp, hop, Sem.run_bind, hrb, Result.andThen_ok, invoke]
    have ht : (c.args.map a.eval).toList = a.eval y :: ys.map a.eval := by simp [hcl]
    cases mx
    · simp only [Bool.false_eq_true, if_false] at g1 ⊢
      simp only [builtin, Builtin.min_, ht, Sem.run_bind, g1, Result.andThen_ok, Sem.run_pure]
    · simp only [if_true] at g1 ⊢
      simp only [builtin, Builtin.max_, ht, Sem.run_bind, g1, Result.andThen_ok, Sem.run_pure]

theorem grown_sound (h : SR P w0 X D R st a w) (hf : R site = none) (hb : ∀ x, o.dst = some x → x < st.nt) (hn : After P w0 X D R st a w o site K r next) (hd : ∀ c, o.op ≠ .defer c)
    {own : Bool} {e t t' : TypeId} {x y : AV} {xv yv : Value} (hu : P.underlying t = some (.slice e)) (hx : x = .nl ∨ (x = .e0 true ∧ own = false)) (hxv : VR P D R w x xv) (hyv : VR P D R w y yv)
    (hr : ∀ v w', (Builtin.append_ #[t, t'] o.type #[xv, yv]).run P w = .ok v w' → (execOp a.eval o).run P w = .ok (.value v) w')
    (he : grown P site own e t t' x y K = some r) : o.wpIn (FW ro) n P a w next Q := by
  unfold grown at he
  split at he <;> first | (cases he; done) | skip
  rename_i e' es
  obtain ⟨hc, he2⟩ := cond_some he
  clear he
  simp only [Bool.and_eq_true] at hc
  obtain ⟨ht, hee, ho⟩ := hc
  obtain rfl := Nat.eq_of_beq_eq_true ht
  obtain rfl := Nat.eq_of_beq_eq_true hee
  cases hin : P.info? e with
  | none => rw [hin] at he2; cases he2
  | some i =>
    rw [hin] at he2
    obtain ⟨hz1, he3⟩ := cond_some he2
    obtain ⟨hz0, hzz⟩ := Bool.and_eq_true_iff.1 hz1
    obtain ⟨hby, he4⟩ := cond_some he3
    have hby : es.length * i.bytes ≤ 140737488355328 := Nat.le_of_ble_eq_true hby
    cases own with
    | false =>
      have key : ∃ xa, xv = .slice xa 0 0 := by
        rcases hx with rfl | ⟨rfl, _⟩
        · cases hxv; exact ⟨_, rfl⟩
        · cases hxv with
          | @e0 _ xa c hc =>
            obtain rfl := hc rfl
            exact ⟨_, rfl⟩
      obtain ⟨xa, rfl⟩ := key
      obtain ⟨D', R', v', w', q1, q2, q3, q4⟩ := grow_nil h hf (ty := o.type) hu hin ho hz0 hzz hby hyv (xa := xa)
      exact wpIn_value hd (hr _ _ q1) (hn D' R' ⟨_, some (site, .fr e)⟩ _ _ (q2.put hb q3) q4 he4)
    | true =>
      have key : xv = .slice none 0 0 := by
        rcases hx with rfl | ⟨_, h⟩
        · cases hxv; rfl
        · cases h
      subst key
      obtain ⟨D', R', v', w', q1, q2, q3, q4⟩ := own_nil h hf (ty := o.type) hu hin ho hz0 hzz hby hyv
      exact wpIn_value hd (hr _ _ q1) (hn D' R' ⟨_, some (site, .row e es)⟩ _ _ (q2.put hb q3) q4 he4)

theorem slice_rs (h : SR P w0 X D R st a w) (hb : ∀ x, o.dst = some x → x < st.nt) (hn : After P w0 X D R st a w o site K r next) (hd : ∀ c, o.op ≠ .defer c) {t e : TypeId} {x : Operand} {lo hi : Option Operand} {es : List (List AV)} {l q : Int}
    (hop : o.op = .slice t x lo hi none) (hu : P.underlying t = some (.slice e)) (hz : 0 < P.cellsOf e) (hlo : (lo.map a.eval = none ∧ l = 0) ∨ ∃ k, lo.map a.eval = some (.int k l)) (hhi : (hi.map a.eval = none ∧ q = (es.length : Int)) ∨ ∃ k, hi.map a.eval = some (.int k q))
    (h0 : 0 ≤ l) (h1 : l ≤ q) (h2 : q ≤ (es.length : Int)) (hx : VR P D R w (.rs e es) (a.eval x)) (he2 : K ⟨.rs e ((es.take q.toNat).drop l.toNat), none⟩ = some r) : o.wpIn (FW ro) n P a w next Q := by
  generalize hax : a.eval x = xv at hx
  have main : ∀ (ad : Option Addr) (c : Nat), es.length ≤ c → (Instr.sliceAt t (.slice ad es.length c) (lo.map a.eval) (hi.map a.eval) none).run P w =
      .ok (.slice (if c = l.toNat then ad else ad.map (·.add (l.toNat * P.cellsOf e))) (q.toNat - l.toNat) (c - l.toNat)) w := by
    intro ad c hc
    simp only [Instr.sliceAt, Sem.run_bind, run_underlying' hu, Result.andThen_ok, Instr.slice]
    rw [run_bounds hlo hhi h0 h1 h2 hc]
    simp only [Result.andThen_ok, run_sizeOf' hz, Sem.run_pure]
  have hlen : ((es.take q.toNat).drop l.toNat).length = q.toNat - l.toNat := by simp; omega
  cases hx with
  | @rs0 _ ad c hadc =>
    have hq0 : q.toNat - l.toNat = 0 := by simp at h2; omega
    refine op_value h hb hn hd (v' := .slice (if c = l.toNat then ad else ad.map (·.add (l.toNat * P.cellsOf e))) 0 (c - l.toNat)) ?_ (by
      have : ((([] : List (List AV)).take q.toNat).drop l.toNat) = [] := by simp
      rw [this]; exact .rs0 fun h0 => by
        cases ad with
        | none => have := hadc rfl; omega
        | some ad => split at h0 <;> cases h0) he2
    have := main ad c (by simp)
    simp only [execOp, hop, Sem.run_bind, hax, Option.map_none]
    simp only [List.length_nil] at this
    rw [this, hq0]
    rfl
  | @rs _ _ b o' c f g1 gz g2 g3 g4 g5 g6 g7 =>
    refine op_value h hb hn hd (v' := .slice (if c = l.toNat then some ⟨b, o', none⟩ else (some ⟨b, o', none⟩ : Option Addr).map (·.add (l.toNat * P.cellsOf e))) (q.toNat - l.toNat) (c - l.toNat)) ?_ ?_ he2
    · simp only [execOp, hop, Sem.run_bind, hax, Option.map_none, main _ c g2]
      rfl
    · by_cases hemp : (es.take q.toNat).drop l.toNat = []
      · rw [hemp]
        have : q.toNat - l.toNat = 0 := by rw [← hlen, hemp]; rfl
        rw [this]
        exact .rs0 fun h0 => by split at h0 <;> cases h0
      · have hpos : 0 < q.toNat - l.toNat := by
          rw [← hlen]
          exact List.length_pos_iff.2 hemp
        have hne : ¬ c = l.toNat := by omega
        simp only [hne, if_false, Option.map_some, add_plain']
        rw [← hlen]
        obtain ⟨w1, w2, w3⟩ : es.length ≤ 9223372036854775807 ∧ (∀ x, x ∈ es → x.length = (cts P e).length) ∧ (∀ x, x ∈ es → ∀ j, j < x.length → WT P ((cts P e).getD j .oth) (x.getD j .u)) := by
          cases g5 with
          | sl a b c => exact ⟨a, b, c⟩
        have hsub : ∀ x, x ∈ (es.take q.toNat).drop l.toNat → x ∈ es := fun x hx => List.mem_of_mem_take (List.mem_of_mem_drop hx)
        have hget : ∀ i, i < q.toNat - l.toNat → ((es.take q.toNat).drop l.toNat).getD i [] = es.getD (l.toNat + i) [] := fun i hi => by
          simp [List.getD_eq_getElem?_getD, List.getElem?_take, show l.toNat + i < q.toNat by omega]
        refine .rs (f := fun i j => f (l.toNat + i) j) hemp gz (by rw [hlen]; omega) g3 (fun i j hi hj => by
            rw [hlen] at hi
            have := g4 (l.toNat + i) j (by omega) hj
            rw [Nat.add_mul] at this
            rw [show o' + l.toNat * P.cellsOf e + (i * P.cellsOf e + j) = o' + (l.toNat * P.cellsOf e + i * P.cellsOf e + j) by omega]
            exact this) (.sl (by rw [hlen]; omega) (fun x hx => w2 x (hsub x hx)) (fun x hx => w3 x (hsub x hx))) (fun i j hi hj => ?_) (fun i j hi hj => ?_)
        · rw [hlen] at hi
          have := g6 (l.toNat + i) j (by omega) hj
          rw [Nat.add_mul] at this
          rw [← this]
          congr 2
          omega
        · rw [hlen] at hi
          rw [hget i hi]
          exact g7 (l.toNat + i) j (by omega) hj
theorem one_of_fit {all : List CT} {v x : AV} {v' : Value} (h : fitCs all [v] = some [x]) (hv : VR P D R w v v') : WTs P all [x] ∧ VR P D R w x v' := by
  obtain ⟨g1, _, g3, _⟩ := fitCs_sound (P := P) (D := D) (R := R) (w := w) (cv := [v']) h rfl (fun k hk => by
    have : k = 0 := by simpa using hk
    subst this
    simpa using hv)
  exact ⟨g1, by simpa using g3 0 (by simp)⟩
theorem fitC_one {c : CT} {v x : AV} (h : fitC c v = some x) : cellsOf x = [x] := by
  unfold fitC at h
  split at h <;> first | (cases h; done) | (cases h; rfl) | (cases hk : (_ : Bool) <;> simp_all; done) | skip
  all_goals (obtain ⟨_, h⟩ := cond_some h; cases h; rfl)
theorem fitCs_one {all : List CT} {v x : AV} (h : fitCs all [v] = some [x]) : cellsOf x = [x] := by
  cases all with
  | nil => simp [fitCs] at h
  | cons c r =>
    simp only [fitCs] at h
    split at h <;> first | (cases h; done) | skip
    rename_i a' y' h1 h2
    simp only [Option.some.injEq, List.cons.injEq] at h
    rw [← h.1]
    exact fitC_one h1
theorem asT_sound {t : TypeId} {v x : AV} {v' : Value} (h : asT P t v = some x) (hv : VR P D R w v v') : TV P t x ∧ VR P D R w x v' := by
  unfold asT at h
  split at h <;> first | (cases h; done) | skip
  · rename_i cs hA
    split at h <;> first | (cases h; done) | skip
    rename_i cs' hf
    cases h
    obtain ⟨cv, rfl, q1, q2⟩ := hv.agg_inv
    obtain ⟨g1, g2, g3, _⟩ := fitCs_sound (P := P) (D := D) (R := R) (w := w) (cv := cv.toList) hf (by simpa using q1) (fun k hk => by
      have := q2 k hk
      simpa [Array.getD_eq_getD_getElem?, List.getD_eq_getElem?_getD] using this)
    refine ⟨⟨g1, fun _ => ⟨_, rfl⟩, fun h => (by rw [hA] at h; cases h)⟩, .agg (by rw [g2]; exact q1) fun k hk => ?_⟩
    have := g3 k hk
    simpa [Array.getD_eq_getD_getElem?, List.getD_eq_getElem?_getD] using this
  · rename_i hA _
    split at h <;> first | (cases h; done) | skip
    rename_i x' hf
    cases h
    obtain ⟨g1, g2⟩ := one_of_fit hf hv
    have hc := fitCs_one hf
    exact ⟨⟨by rw [hc]; exact g1, fun h => (by rw [hA] at h; cases h), fun _ => hc⟩, g2⟩
theorem zeroT_sound {t : TypeId} {x : AV} (h : zeroT P t = some x) : ∃ i z, P.info? t = some i ∧ i.zero = some z ∧ TV P t x ∧ VR P D R w x z := by
  unfold zeroT at h
  have info : ∀ {z : Value}, (P.info? t).bind (·.zero) = some z → ∃ i, P.info? t = some i ∧ i.zero = some z := fun {z} hz => by
    cases hi : P.info? t with
    | none => simp [hi] at hz
    | some i => exact ⟨i, rfl, by simpa [hi] using hz⟩
  split at h <;> first | (cases h; done) | skip
  · rename_i cv hA hz
    obtain ⟨i, hi1, hi2⟩ := info hz
    split at h <;> first | (cases h; done) | skip
    rename_i cs hf
    cases h
    obtain ⟨g1, g2, g3, _⟩ := fitCs_sound (P := P) (D := D) (R := R) (w := w) (cv := cv.toList) hf (by simp) (fun k hk => by
      simp only [List.length_map] at hk
      rw [getD_map _ _ _ Go.undef _ hk]
      exact VR_ofC _)
    refine ⟨i, _, hi1, hi2, ⟨g1, fun _ => ⟨_, rfl⟩, fun h => (by rw [hA] at h; cases h)⟩, .agg (by rw [g2]; simp) fun k hk => ?_⟩
    have := g3 k hk
    simpa [Array.getD_eq_getD_getElem?, List.getD_eq_getElem?_getD] using this
  · rename_i z _ hA hz
    obtain ⟨i, hi1, hi2⟩ := info hz
    split at h <;> first | (cases h; done) | skip
    rename_i x' hf
    cases h
    obtain ⟨g1, g2⟩ := one_of_fit (P := P) (D := D) (R := R) (w := w) hf (VR_ofC z)
    have hc := fitCs_one hf
    exact ⟨i, z, hi1, hi2, ⟨by rw [hc]; exact g1, fun h => (by rw [hA] at h; cases h), fun _ => hc⟩, g2⟩
theorem projT_TV {t : TypeId} {x : AV} (h : TV P t x) : projT P t x = x := by
  unfold projT
  cases hA : isAgg P t with
  | true =>
    obtain ⟨cs, rfl⟩ := h.a hA
    have hw : WTs P (cts P t) cs := h.w
    simp only [cond_true, AV.agg.injEq, cellsOf]
    apply List.ext_getElem
    · rw [projs_length, hw.1]
    · intro j h1 h2
      have h3 := projs_getD (cts P t) cs 0 j (by rw [← hw.1]; exact h2)
      rw [Nat.zero_add, proj_WT (hw.2 j h2)] at h3
      simpa [List.getD_eq_getElem?_getD, h1, h2] using h3
  | false =>
    have hw := h.w
    rw [h.n hA] at hw
    have := hw.2 0 (by simp)
    simp only [cond_false]
    have e : (cts P t).headD .oth = (cts P t).getD 0 .oth := by cases (cts P t) <;> simp
    rw [e]
    exact proj_WT (by simpa using this)
theorem plain_TV {t : TypeId} (hk : keyT P t = true) {x : AV} (h : TV P t x) : plain x = true := by
  have pc : ∀ {c : CT} {x : AV}, WT P c x → (∃ k, c = .int k) ∨ c = .bool ∨ c = .str → plain x = true := fun hW hc => by
    cases hW with
    | int h1 h2 => simp [plain, h1, h2]
    | bool => rfl
    | str h1 => simp [plain, h1]
    | sl => simp at hc
    | oth => simp at hc
  have flat : ∀ {t : TypeId} {c : CT}, flatT P t = true → ctsEq [c] (cts P t) = true → (∃ k, c = .int k) ∨ c = .bool ∨ c = .str := fun hf hc => by
    obtain ⟨c', d, h1, _, _, h2⟩ := flatT_ct hf
    rw [h1] at hc
    have := ctsEq_eq hc
    simp only [List.cons.injEq, and_true] at this
    rw [this]
    rcases h2 with ⟨k, h, _⟩ | ⟨h, _⟩ | ⟨h, _⟩
    · exact .inl ⟨k, h⟩
    · exact .inr (.inl h)
    · exact .inr (.inr h)
  have one : flatT P t = true → plain x = true := fun hf => by
    obtain ⟨c, d, h1, _, hA, h2⟩ := flatT_ct hf
    have hw := h.w
    rw [h.n hA, h1] at hw
    refine pc (by simpa using hw.2 0 (by simp)) ?_
    rcases h2 with ⟨k, h, _⟩ | ⟨h, _⟩ | ⟨h, _⟩
    · exact .inl ⟨k, h⟩
    · exact .inr (.inl h)
    · exact .inr (.inr h)
  have all : ∀ {cs : List AV}, WTs P (cts P t) cs → (∀ i, i < cs.length → (∃ k, (cts P t).getD i .oth = .int k) ∨ (cts P t).getD i .oth = .bool ∨ (cts P t).getD i .oth = .str) → plainL cs = true := fun {cs} hw hc => by
    have : ∀ (l : List AV), (∀ i, i < l.length → plain (l.getD i .u) = true) → plainL l = true := by
      intro l
      induction l with
      | nil => intro _; rfl
      | cons a l ih =>
        intro hl
        simp only [plainL, Bool.and_eq_true]
        exact ⟨by simpa using hl 0 (by simp), ih fun i hi => by simpa using hl (i + 1) (by simpa using hi)⟩
    exact this cs fun i hi => pc (hw.2 i hi) (hc i hi)
  unfold keyT at hk
  cases hu : P.underlying t with
  | none => simp [hu] at hk
  | some ds =>
    rw [hu] at hk
    cases ds <;> simp only at hk <;> first | (cases hk; done) | skip
    case bool => exact one (by simp [flatT, hu])
    case int k => exact one (by simp [flatT, hu])
    case string => exact one (by simp [flatT, hu])
    case array m e =>
      simp only [Bool.and_eq_true] at hk
      obtain ⟨g1, g2, g3, g4, g5⟩ := hk
      have hA : isAgg P t = true := by simp [isAgg, hu]
      obtain ⟨xs, rfl⟩ := h.a hA
      have hw : WTs P (cts P t) xs := h.w
      have g2 := Nat.eq_of_beq_eq_true g2
      refine all hw fun i hi => ?_
      have h0 := List.all_eq_true.1 g5 i (by have := hw.1; simp; omega)
      obtain ⟨c, d, h1, _⟩ := flatT_ct g3
      rw [h1] at h0
      obtain ⟨g6, _⟩ := ctsAt_one h0
      rw [g6]
      exact flat g3 (by rw [h1]; simp [ctsEq, ctEq]; cases c <;> simp [ctEq])
    case struct fs =>
      simp only [Bool.and_eq_true] at hk
      obtain ⟨g1, g2, g3⟩ := hk
      have hA : isAgg P t = true := by simp [isAgg, hu]
      obtain ⟨xs, rfl⟩ := h.a hA
      have hw : WTs P (cts P t) xs := h.w
      have g2 := Nat.eq_of_beq_eq_true g2
      refine all hw fun i hi => ?_
      have hif : i < fs.toList.length := by have := hw.1; simp; omega
      have h0 := List.all_eq_true.1 g3 (fs.toList[i], i) (by rw [List.mem_zipIdx_iff_getElem?]; simp [hif])
      simp only [Bool.and_eq_true] at h0
      obtain ⟨c, d, h1, _⟩ := flatT_ct h0.1
      have h2 := h0.2.2.2
      rw [h1] at h2
      obtain ⟨g6, _⟩ := ctsAt_one h2
      rw [g6]
      exact flat h0.1 (by rw [h1]; simp [ctsEq, ctEq]; cases c <;> simp [ctEq])
theorem toV_plain {x : AV} {v : Value} (hp : plain x = true) (hv : VR P D R w x v) : v = toV x := VR_plain_all.1 x hp v hv

theorem encode_size (n : Int) : (Utf8.encode n).size ≤ 9223372036854775807 := by
  unfold Utf8.encode
  simp only
  repeat' split
  all_goals first
    | (show 1 ≤ 9223372036854775807; omega)
    | (show 2 ≤ 9223372036854775807; omega)
    | (show 3 ≤ 9223372036854775807; omega)
    | (show 4 ≤ 9223372036854775807; omega)
theorem evOp_sound (hs : SpecOK P S) (h : SR P w0 X D R st a w) (hf : R site = none) (hb : ∀ x, o.dst = some x → x < st.nt) (he : evOp P S RO site o st K = some r)
    (hn : After P w0 X D R st a w o site K r next) : o.wpIn (FW ro) n P a w next Q := by
  unfold evOp at he
  have hd : ∀ c, o.op ≠ .defer c := by intro c hc; simp [hc] at he
  cases hop : o.op <;> simp only [hop] at he <;> try (cases he; done)
  case move x => exact op_value h hb hn hd (by simp [execOp, hop]) (h.val x) he
  case assign x => exact op_value h hb hn hd (by simp [execOp, hop]) (h.val x) he
  case pick c x y =>
    have hc := h.val c
    have hx := h.val x
    have hy := h.val y
    generalize val st c = vc at he hc
    generalize val st x = vx at he hx
    generalize val st y = vy at he hy
    split at he
    · rename_i t
      have ec := hc.bool_inv
      have hrun : (execOp a.eval o).run P w = .ok (.value (if t then a.eval x else a.eval y)) w := by simp [execOp, hop, ec, run_asBool]
      split at he
      · rename_i p q
        have e1 := hx.bool_inv
        have e2 := hy.bool_inv
        refine op_value h hb hn hd hrun ?_ he
        cases t
        · simpa [e2] using VR.b
        · simpa [e1] using VR.b
      · cases t
        · exact op_value h hb hn hd (by simpa using hrun) hy he
        · exact op_value h hb hn hd (by simpa using hrun) hx he
    · cases he
  case unOp op t x =>
    have hx := h.val x
    cases op <;> simp only at he <;> first | (cases he; done) | skip
    all_goals (split at he <;> first | (cases he; done) | skip)
    · rename_i hv
      rw [hv] at hx
      obtain ⟨e, _⟩ := hx.int_inv
      refine op_value h hb hn hd (v' := .int _ (IntKind.wrap _ (0 - _))) ?_ (.i (inR_wrap _ _).1 (inR_wrap _ _).2) he
      simp only [execOp, hop, e]
      simp [Op.unary, Op.intArith]
    · rename_i hv
      rw [hv] at hx
      have e := hx.bool_inv
      exact op_value h hb hn hd (by simp only [execOp, hop, e]; simp [Op.unary]) .b he
  case binOp op t x y yt =>
    obtain ⟨v, v', h1, h2, h3⟩ := bin_sound (ox := x) (oy := y) (h.val x) (h.val y) he
    refine op_value h hb hn hd (v' := v') ?_ h2 h3
    simp only [execOp, hop, Sem.run_bind, Sem.run_pure] at h1 ⊢
    rw [h1]
    rfl
  case convert src dst x =>
    have hx := h.val x
    split at he <;> first | (cases he; done) | skip
    · rename_i hu1 hu2 hv
      rw [hv] at hx
      obtain ⟨e, _⟩ := hx.int_inv
      refine op_value h hb hn hd (v' := .int _ (IntKind.wrap _ _)) ?_ (.i (inR_wrap _ _).1 (inR_wrap _ _).2) he
      simp only [execOp, hop, e]
      simp [Go.convert, run_underlying' hu1, run_underlying' hu2, Conv.intToInt]
    · rename_i hu1 hu2 hv
      rw [hv] at hx
      obtain ⟨e, _⟩ := hx.int_inv
      refine op_value h hb hn hd (v' := .string (Utf8.encode _)) ?_ (.s (encode_size _)) he
      simp only [execOp, hop, e]
      simp [Go.convert, run_underlying' hu1, run_underlying' hu2, Conv.intToString]
    · rename_i hu1 hu2 hv
      rw [hv] at hx
      obtain ⟨e, hsz⟩ := hx.str_inv
      refine op_value h hb hn hd ?_ (.s hsz) he
      simp only [execOp, hop, e]
      simp [Go.convert, run_underlying' hu1, run_underlying' hu2]
  case extract x j =>
    have hx := h.val x
    split at he <;> first | (cases he; done) | skip
    rename_i vs hv
    rw [hv] at hx
    split at he <;> first | (cases he; done) | skip
    rename_i v hj
    generalize hax : a.eval x = ax at hx
    cases hx with
    | @tup cs cv h1 h2 =>
      have hlt : j < vs.length := (List.getElem?_eq_some_iff.1 hj).1
      have hlt' : j < cv.size := by omega
      refine op_value h hb hn hd (v' := cv[j]) ?_ ?_ he
      · simp only [execOp, hop, hax]
        simp [Instr.extract, hlt']
      · have := h2 j hlt
        simpa [List.getD_eq_getElem?_getD, Array.getD_eq_getD_getElem?, hj, hlt'] using this
  case field t x f =>
    have hx := h.val x
    split at he <;> first | (cases he; done) | skip
    rename_i fs cs hu hv
    rw [hv] at hx
    split at he <;> first | (cases he; done) | skip
    rename_i fd hfd
    split at he <;> first | (cases he; done) | skip
    rename_i v hp
    obtain ⟨cv, e, h1, h2⟩ := hx.agg_inv
    obtain ⟨u, g1, g2⟩ := partV_sound h1 h2 hp
    refine op_value h hb hn hd (v' := u) ?_ g2 he
    simp only [execOp, hop, e]
    simp [Instr.field, run_underlying' hu, hfd, asAgg, g1]
  case build t parts =>
    split at he <;> first | (cases he; done) | skip
    · rename_i fs z hu hz
      split at he <;> first | (cases he; done) | skip
      rename_i cs hfill
      split at he <;> first | (cases he; done) | skip
      rename_i cs' hfit
      obtain ⟨hinfo, he⟩ := cond_some he
      obtain ⟨i, zv, z1, z2, z3, z4, z5⟩ := zeroK_sound (P := P) (D := D) (R := R) (w := w) hz
      obtain ⟨cv, g1, g2, g3⟩ := fill_sound (P := P) (D := D) (R := R) (w := w) (pc := fun i => (fs[i]?).map fun f => (f.offset, P.cellsOf f.type)) (pv := parts.toList.map fun p => (p.1, a.eval p.2))
        (fun i x hx => by
          simp only [place] at hx
          cases hfi : fs[i]? with
          | none => simp [hfi] at hx
          | some f => simp [hfi] at hx; subst hx; simp)
        hfill z4 z5 (by simp) (fun k hk => by
          simp only [List.length_map] at hk
          rw [getD_map _ _ _ (0, .const Go.undef) _ hk, getD_map _ _ _ (0, .const Go.undef) _ hk]
          exact ⟨rfl, h.val _⟩)
      obtain ⟨f2, f3⟩ := fitK_sound (P := P) (D := D) (R := R) (w := w) (cv := cv.toList) hfit (by simpa using g2) (fun k hk => by
        have := g3 k hk
        simpa [Array.getD_eq_getD_getElem?, List.getD_eq_getElem?_getD] using this)
      refine op_value h hb hn hd (v' := .agg cv) ?_ (.agg (by rw [f2]; exact g2) (fun k hk => by
        have := f3 k hk
        simpa [Array.getD_eq_getD_getElem?, List.getD_eq_getElem?_getD] using this)) he
      have hm : (fs.mapM fun f => (do pure (f.offset, ← sizeOf f.type) : Sem (Nat × Nat))).run P w = .ok (fs.map fun f => (f.offset, P.cellsOf f.type)) w := by
        rw [Array.mapM_eq_mapM_toList]
        have : ∀ l : List Field, l.all (fun f => (P.info? f.type).isSome) = true → (l.mapM fun f => (do pure (f.offset, ← sizeOf f.type) : Sem (Nat × Nat))).run P w = .ok (l.map fun f => (f.offset, P.cellsOf f.type)) w := by
          intro l
          induction l with
          | nil => intro _; simp
          | cons f l ih =>
            intro hl
            simp only [List.all_cons, Bool.and_eq_true] at hl
            obtain ⟨i, hi⟩ := Option.isSome_iff_exists.1 hl.1
            have e1 : (sizeOf f.type).run P w = .ok (P.cellsOf f.type) w := by simp [sizeOf, typeInfo, hi, Program.cellsOf]
            simp only [List.mapM_cons, Sem.run_bind, e1, Result.andThen_ok, Sem.run_pure, ih hl.2, List.map_cons]
        simp only [Sem.run_map, this _ hinfo, Result.andThen_ok]
        congr 1
        apply Array.ext'
        simp
      have hpl : (fun (i : Nat) => (fs.map fun f => (f.offset, P.cellsOf f.type))[i]?) = fun (i : Nat) => (fs[i]?).map fun (f : Field) => (f.offset, P.cellsOf f.type) := by
        funext i; simp
      simp only [execOp, hop, Sem.run_bind, Sem.run_pure]
      simp only [Instr.build, Sem.run_bind, zeroValue, typeInfo, run_program, Result.andThen_ok, z1, z2, Sem.run_pure, run_underlying' hu, hm]
      have : (parts.map fun x => match x with | (i, x) => (i, a.eval x)).toList = parts.toList.map fun p => (p.1, a.eval p.2) := by simp
      rw [this, hpl, g1]
      simp
    · rename_i m e z hu hz
      split at he <;> first | (cases he; done) | skip
      rename_i cs hfill
      split at he <;> first | (cases he; done) | skip
      rename_i cs' hfit
      obtain ⟨hinfo, he⟩ := cond_some he
      obtain ⟨i, zv, z1, z2, z3, z4, z5⟩ := zeroK_sound (P := P) (D := D) (R := R) (w := w) hz
      obtain ⟨cv, g1, g2, g3⟩ := fill_sound (P := P) (D := D) (R := R) (w := w) (pc := fun i => some (i * P.cellsOf e, P.cellsOf e)) (pv := parts.toList.map fun p => (p.1, a.eval p.2))
        (fun i x hx => by simp only [Option.some.injEq] at hx; subst hx; rfl)
        hfill z4 z5 (by simp) (fun k hk => by
          simp only [List.length_map] at hk
          rw [getD_map _ _ _ (0, .const Go.undef) _ hk, getD_map _ _ _ (0, .const Go.undef) _ hk]
          exact ⟨rfl, h.val _⟩)
      obtain ⟨f1, f2, f3, f4⟩ := fitCs_sound (P := P) (D := D) (R := R) (w := w) (cv := cv.toList) hfit (by simpa using g2) (fun k hk => by
        have := g3 k hk
        simpa [Array.getD_eq_getD_getElem?, List.getD_eq_getElem?_getD] using this)
      refine op_value h hb hn hd (v' := .agg cv) ?_ (.agg (by rw [f2]; exact g2) (fun k hk => by
        have := f3 k hk
        simpa [Array.getD_eq_getD_getElem?, List.getD_eq_getElem?_getD] using this)) he
      obtain ⟨ie, hie⟩ := Option.isSome_iff_exists.1 hinfo
      have e1 : (sizeOf e).run P w = .ok (P.cellsOf e) w := by simp [sizeOf, typeInfo, hie, Program.cellsOf]
      simp only [execOp, hop, Sem.run_bind, Sem.run_pure]
      simp only [Instr.build, Sem.run_bind, zeroValue, typeInfo, run_program, Result.andThen_ok, z1, z2, Sem.run_pure, run_underlying' hu, e1]
      have : (parts.map fun x => match x with | (i, x) => (i, a.eval x)).toList = parts.toList.map fun p => (p.1, a.eval p.2) := by simp
      rw [this, g1]
      simp
  case fieldAddr t x f =>
    have hx := h.val x
    split at he <;> first | (cases he; done) | skip
    rename_i fs hu
    generalize val st x = ax at he hx
    split at he <;> first | (cases he; done) | skip
    · rename_i fd id i j hfd
      cases hz : Nat.beq (P.cellsOf fd.type) 0 with
      | true => rw [hz] at he; cases he
      | false =>
        rw [hz] at he
        have hz' : 0 < P.cellsOf fd.type := by
          rcases Nat.eq_zero_or_pos (P.cellsOf fd.type) with h | h
          · rw [h] at hz; cases hz
          · exact h
        generalize hax : a.eval x = xv at hx
        cases hx with
        | @p _ _ _ b sz hR =>
          refine op_value h hb hn hd ?_ (.p (i := i) (j := j + fd.offset) hR) he
          simp only [execOp, hop, hax]
          simp [Instr.fieldAt, run_underlying' hu, hfd, Instr.sureAddr, run_fieldPlace hz', Nat.add_assoc]
    · rename_i fd all cs j hfd
      cases hz : Nat.beq (P.cellsOf fd.type) 0 with
      | true => rw [hz] at he; cases he
      | false =>
        rw [hz] at he
        have hz' : 0 < P.cellsOf fd.type := by
          rcases Nat.eq_zero_or_pos (P.cellsOf fd.type) with h | h
          · rw [h] at hz; cases hz
          · exact h
        generalize hax : a.eval x = xv at hx
        cases hx with
        | @rp _ _ _ b o' f' g1 g2 g3 g4 g5 =>
          refine op_value h hb hn hd ?_ (.rp (j := j + fd.offset) g1 g2 g3 g4 g5) he
          simp only [execOp, hop, hax]
          simp [Instr.fieldAt, run_underlying' hu, hfd, Instr.sureAddr, run_fieldPlace hz', Nat.add_assoc]
  case indexAddr t x ix =>
    have hx := h.val x
    have hi := h.val ix
    split at he <;> first | (cases he; done) | skip
    · rename_i e e' es k q hu hv1 hv2
      rw [hv1] at hx; rw [hv2] at hi
      obtain ⟨hc, he2⟩ := cond_some he
      simp only [Bool.and_eq_true] at hc
      have := Nat.eq_of_beq_eq_true hc.1
      subst this
      obtain ⟨b1, b2, b3⟩ := inb_spec hc.2
      obtain ⟨ei, _⟩ := hi.int_inv
      obtain ⟨b, o', c, e1, hz, hv⟩ := hx.rs_row b3
      refine op_value h hb hn hd ?_ hv he2
      simp only [execOp, hop, e1, ei, Sem.run_bind, run_indexAt_slice hu b1 b2 hz, Result.andThen_ok, add_plain', Sem.run_pure]
    · rename_i e id off len k q hu hv1 hv2
      rw [hv1] at hx; rw [hv2] at hi
      obtain ⟨ei, _⟩ := hi.int_inv
      split at he <;> first | (cases he; done) | skip
      rename_i e' es hm
      obtain ⟨hc, he2⟩ := cond_some he
      simp only [Bool.and_eq_true] at hc
      have := Nat.eq_of_beq_eq_true hc.1
      subst this
      obtain ⟨b1, b2, b3⟩ := inb_spec hc.2.1
      generalize hax : a.eval x = xv at hx
      cases hx with
      | sl0 => simp at b2; omega
      | @sl _ _ _ b sz c hR hle _ =>
        have hrow := h.mem id
        rw [hm] at hrow
        have hne : es ≠ [] := by
          intro e0
          have := hc.2.2
          rw [e0] at this
          simp [Nat.blt_eq] at this
        obtain ⟨b', cells, ty, m1, m2, m3, m4, _⟩ := hrow hne
        obtain ⟨rfl, rfl⟩ : b = b' ∧ sz = P.cellsOf e := by rw [hR] at m1; simpa using m1
        refine op_value h hb hn hd (v' := .pointer (some ⟨b, (off + q.toNat) * P.cellsOf e + 0, none⟩)) ?_ (.p hR) he2
        simp only [execOp, hop, hax, ei, Sem.run_bind, run_indexAt_slice hu b1 b2 m4, Result.andThen_ok, add_plain', Sem.run_pure, Nat.add_mul, Nat.add_zero]
    · rename_i e id e' es k q hu hv1 hv2
      rw [hv1] at hx; rw [hv2] at hi
      obtain ⟨hc, he2⟩ := cond_some he
      simp only [Bool.and_eq_true] at hc
      have := Nat.eq_of_beq_eq_true hc.1
      subst this
      obtain ⟨b1, b2, b3⟩ := inb_spec hc.2
      obtain ⟨ei, _⟩ := hi.int_inv
      obtain ⟨b, o', c, e1, hz, hv⟩ := hx.gv_rs.rs_row b3
      refine op_value h hb hn hd ?_ hv he2
      simp only [execOp, hop, e1, ei, Sem.run_bind, run_indexAt_slice hu b1 b2 hz, Result.andThen_ok, add_plain', Sem.run_pure]
    · rename_i e id i j len k q hu hv1 hv2
      rw [hv1] at hx; rw [hv2] at hi
      obtain ⟨hc, he2⟩ := cond_some he
      simp only [Bool.and_eq_true] at hc
      have hz : 0 < P.cellsOf e := by simpa [Nat.blt_eq] using hc.1
      obtain ⟨b1, b2, b3⟩ := inb_spec hc.2
      obtain ⟨ei, _⟩ := hi.int_inv
      generalize hax : a.eval x = xv at hx
      cases hx with
      | @sa _ _ _ _ b sz c hR hle _ =>
        refine op_value h hb hn hd (v' := .pointer (some ⟨b, i * sz + (j + q.toNat * P.cellsOf e), none⟩)) ?_ (.p hR) he2
        simp only [execOp, hop, hax, ei, Sem.run_bind, run_indexAt_slice hu b1 b2 hz, Result.andThen_ok, add_plain', Sem.run_pure, Nat.add_assoc]
    · rename_i len e id i j k q hu hv1 hv2
      rw [hv1] at hx; rw [hv2] at hi
      obtain ⟨ei, _⟩ := hi.int_inv
      obtain ⟨hc, he⟩ := cond_some he
      simp only [Bool.and_eq_true] at hc
      have hz : 0 < P.cellsOf e := by simpa [Nat.blt_eq] using hc.1
      obtain ⟨b1, b2, b3⟩ := inb_spec hc.2
      generalize hax : a.eval x = xv at hx
      cases hx with
      | @p _ _ _ b sz hR =>
        refine op_value h hb hn hd (v' := .pointer (some ⟨b, i * sz + (j + q.toNat * P.cellsOf e), none⟩)) ?_ (.p hR) he
        simp only [execOp, hop, hax, ei]
        simp [Instr.indexAt, asIntOf, run_underlying' hu, Instr.sureAddr, b1, b2, run_sizeOf' hz, add_plain', Nat.add_assoc]
    · rename_i len e all cs j k q hu hv1 hv2
      rw [hv1] at hx; rw [hv2] at hi
      obtain ⟨ei, _⟩ := hi.int_inv
      obtain ⟨hc, he⟩ := cond_some he
      simp only [Bool.and_eq_true] at hc
      have hz : 0 < P.cellsOf e := by simpa [Nat.blt_eq] using hc.1
      obtain ⟨b1, b2, b3⟩ := inb_spec hc.2
      generalize hax : a.eval x = xv at hx
      cases hx with
      | @rp _ _ _ b o' f' g1 g2 g3 g4 g5 =>
        refine op_value h hb hn hd (v' := .pointer (some ⟨b, o' + (j + q.toNat * P.cellsOf e), none⟩)) ?_ (.rp g1 g2 g3 g4 g5) he
        simp only [execOp, hop, hax, ei]
        simp [Instr.indexAt, asIntOf, run_underlying' hu, Instr.sureAddr, b1, b2, run_sizeOf' hz, add_plain', Nat.add_assoc]
  case load t x =>
    obtain ⟨v, u, h1, h2, h3⟩ := look_sound h (h.val x) he
    refine op_value h hb hn hd (v' := u) ?_ h2 h3
    simp only [execOp, hop, Sem.run_bind, h1, Result.andThen_ok, Sem.run_pure]
  case nilCheck x =>
    have hx := h.val x
    generalize hax : a.eval x = xv at hx
    split at he <;> first | (cases he; done) | skip
    · rename_i hv
      rw [hv] at hx
      cases hx with
      | p hR => exact op_value h hb hn hd (by simp only [execOp, hop, hax]; simp) (.p hR) he
    · rename_i hv
      rw [hv] at hx
      cases hx with
      | rp g1 g2 g3 g4 g5 => exact op_value h hb hn hd (by simp only [execOp, hop, hax]; simp) (.rp g1 g2 g3 g4 g5) he
  case index t x ix =>
    have hx := h.val x
    have hi := h.val ix
    split at he <;> first | (cases he; done) | skip
    rotate_left
    · rename_i len e cs k q hu hv1 hv2
      rw [hv1] at hx; rw [hv2] at hi
      obtain ⟨ei, _⟩ := hi.int_inv
      obtain ⟨cv, ex, c1, c2⟩ := hx.agg_inv
      have fin : ∀ {v : AV} {d : TypeDesc}, P.underlying e = some d → isAgg P e = false → P.cellsOf e = 1 → inb q len = true → inb q cs.length = true → v = cs.getD q.toNat .u → K ⟨v, none⟩ = some r → o.wpIn (FW ro) n P a w next Q := by
        intro v d hue hA h1 g1 g2 hv he
        obtain ⟨b1, b2, _⟩ := inb_spec g1
        obtain ⟨_, _, b3⟩ := inb_spec g2
        have hlt : q.toNat < cv.size := by omega
        refine op_value h hb hn hd (v' := cv[q.toNat]) ?_ ?_ he
        · have hs : (sizeOf e).run P w = .ok 1 w := by rw [run_sizeOf' (by omega)]; rw [h1]
          simp only [execOp, hop, ex, ei]
          simp [Instr.index, asIntOf, run_underlying' hu, b1, b2, hs, part, run_isAgg' hue, hA, hlt]
        · rw [hv]
          have := c2 q.toNat b3
          simpa [Array.getD_eq_getD_getElem?, hlt] using this
      split at he <;> first | (cases he; done) | skip
      · rename_i k' hue
        obtain ⟨hc, he⟩ := cond_some he
        simp only [Bool.and_eq_true] at hc
        obtain ⟨h1, h2, h3, h4⟩ := hc
        refine fin hue (by simp [isAgg, hue]) (Nat.eq_of_beq_eq_true h1) h3 h4 ?_ he
        obtain ⟨_, _, b3⟩ := inb_spec h4
        have := List.all_eq_true.1 h2 (cs[q.toNat]) (List.getElem_mem b3)
        simp only [List.getD_eq_getElem?_getD, List.getElem?_eq_getElem b3, Option.getD_some]
        split at this
        · rename_i k2 m hm
          rw [hm, of_decide_eq_true this]; rfl
        · cases this
      · rename_i hue
        obtain ⟨hc, he⟩ := cond_some he
        simp only [Bool.and_eq_true] at hc
        obtain ⟨h1, h2, h3, h4⟩ := hc
        refine fin hue (by simp [isAgg, hue]) (Nat.eq_of_beq_eq_true h1) h3 h4 ?_ he
        obtain ⟨_, _, b3⟩ := inb_spec h4
        have := List.all_eq_true.1 h2 (cs[q.toNat]) (List.getElem_mem b3)
        simp only [List.getD_eq_getElem?_getD, List.getElem?_eq_getElem b3, Option.getD_some]
        split at this
        · rename_i m hm
          rw [hm]; rfl
        · cases this
    rename_i s k q hu hv1 hv2
    rw [hv1] at hx; rw [hv2] at hi
    obtain ⟨ei, _⟩ := hi.int_inv
    obtain ⟨ex, _⟩ := hx.str_inv
    obtain ⟨hc, he⟩ := cond_some he
    obtain ⟨b1, b2, b3⟩ := inb_spec hc
    refine op_value h hb hn hd (v' := .int .u8 ((s.data.toList.getD q.toNat 0).toNat : Int)) ?_ (.i ?_ ?_) he
    · simp only [execOp, hop, ex, ei]
      have : s[q.toNat]? = some (s.data.toList.getD q.toNat 0) := by
        have hlt : q.toNat < s.data.size := b3
        simp [getElem?_pos, b3, List.getD_eq_getElem?_getD, hlt]
        rfl
      simp [Instr.index, asIntOf, run_underlying' hu, b1, this]
    · simp [IntKind.min, IntKind.signed]
    · have := (s.data.toList.getD q.toNat 0).toNat_lt
      simp [IntKind.max, IntKind.signed, IntKind.bits] at this ⊢
      omega
  case makeSlice t ln cp =>
    have hl := h.val ln
    have hc := h.val cp
    split at he <;> first | (cases he; done) | skip
    rename_i e m m' hu hv1 hv2
    rw [hv1] at hl; rw [hv2] at hc
    obtain ⟨el, _⟩ := hl.int_inv
    obtain ⟨ec, _⟩ := hc.int_inv
    split at he <;> first | (cases he; done) | skip
    rename_i z i hz hi
    obtain ⟨hg, he2⟩ := cond_some he
    simp only [Bool.and_eq_true, decide_eq_true_eq] at hg
    obtain ⟨ho, rfl, ⟨h0, hby⟩, hmx⟩ := hg
    obtain ⟨h1, h2, _⟩ := okT_spec ho
    obtain ⟨i', zv, z1, z2, z3, z4, z5⟩ := zeroOf_sound (P := P) (D := D) (R := R) (w := w) hz
    obtain rfl : i' = i := by rw [hi] at z1; exact (Option.some.inj z1).symm
    have hzl : z.length = P.cellsOf e := by rw [z3.1, h1]
    have hzs : zv.cells.size = P.cellsOf e := by rw [z4, hzl]
    have hidx : ∀ i j, i < m.toNat → j < P.cellsOf e → i * P.cellsOf e + j < m.toNat * P.cellsOf e := fun i j hi hj => idx_lt hi hj
    have hrep : ∀ i, i < m.toNat → (List.replicate m.toNat z).getD i [] = z := fun i hi => by simp [List.getD_eq_getElem?_getD, hi]
    have hcv : ∀ i j, i < m.toNat → j < P.cellsOf e → ((Array.range (m.toNat * P.cellsOf e)).map (fun x => zv.cells[x % zv.cells.size]!))[i * P.cellsOf e + j]? = some (zv.cells.getD j undef) := fun i j hi hj => by
      have := hidx i j hi hj
      have hj' : j < zv.cells.size := by omega
      have hmod : (i * P.cellsOf e + j) % zv.cells.size = j := by rw [hzs]; exact (div_idx hj).2
      simp [this, hmod, Array.getD_eq_getD_getElem?, hj', getElem!_def]
    have h' := h.fresh (site := site) (t := e) (es := List.replicate m.toNat z) (cv := (Array.range (m.toNat * P.cellsOf e)).map (fun x => zv.cells[x % zv.cells.size]!)) hf h1 h2 (by simp) (.sl (by simp; omega) (fun x hx => by rw [List.eq_of_mem_replicate hx]; exact z3.1) (fun x hx j hj => by
      rw [List.eq_of_mem_replicate hx] at hj ⊢
      exact z3.2 j hj)) (fun i j hi hj => by
      simp only [List.length_replicate] at hi
      exact ⟨_, hcv i j hi hj, by rw [hrep i hi]; exact z5 j (by omega)⟩)
    have hp : VR P (Dn P D w.heap.size (P.cellsOf e, 0) (.row e (List.replicate m.toNat z))) (Rn R site w.heap.size (P.cellsOf e, 0)) (w.alloc (.cells ((Array.range (m.toNat * P.cellsOf e)).map (fun x => zv.cells[x % zv.cells.size]!)) e)) (.sl site 0 m.toNat) (.slice (some ⟨w.heap.size, 0, none⟩) m.toNat m.toNat) := by
      have := VR.sl (P := P) (D := Dn P D w.heap.size (P.cellsOf e, 0) (.row e (List.replicate m.toNat z))) (w := w.alloc (.cells ((Array.range (m.toNat * P.cellsOf e)).map (fun x => zv.cells[x % zv.cells.size]!)) e)) (R := Rn R site w.heap.size (P.cellsOf e, 0)) (id := site) (off := 0) (len := m.toNat) (b := w.heap.size) (sz := P.cellsOf e) (c := m.toNat) (by simp [Rn]) (Nat.le_refl _) (by omega)
      simpa using this
    refine wpIn_value hd ?_ (hn _ _ ⟨_, some (site, .row e (List.replicate m.toNat z))⟩ _ _ (h'.put hb hp) .new he2)
    have hwm : IntKind.i64.wrap m = m := by
      simp [IntKind.wrap, IntKind.signed, IntKind.bits]; omega
    have hbig : ¬ (m < 0) := by omega
    have hbig2 : ¬ ((i'.bytes : Int) * m > 281474976710656) := by
      have : (i'.bytes : Int) * m = m * i'.bytes := Int.mul_comm _ _
      omega
    have hz0 : m.toNat * P.cellsOf e = 0 → ((Array.range (m.toNat * P.cellsOf e)).map (fun x => zv.cells[x % zv.cells.size]!)) = ((Array.range (m.toNat * P.cellsOf e)).map (fun x => (#[] : Array Value)[x % (#[] : Array Value).size]!)) := fun h0 => by rw [h0]; simp
    simp only [execOp, hop, el, ec]
    simp only [Instr.makeSlice, Sem.run_bind, run_underlying' hu, Result.andThen_ok, asInt, asIntOf, Sem.run_pure, typeInfo, run_program, hi, hwm]
    by_cases hm0 : m.toNat * P.cellsOf e = 0
    · rw [hz0 hm0]
      simp [hbig, hbig2, run_sizeOf' h2, hm0, newRow, newObj, Sem.run]
    · simp [hbig, hbig2, run_sizeOf' h2, hm0, zeroValue, typeInfo, hi, z2, newRow, newObj, Sem.run]
  case makeMap t rsv =>
    cases rsv with
    | some v => cases he
    | none =>
      simp only at he
      split at he <;> first | (cases he; done) | skip
      rename_i kt vt hu
      obtain ⟨hg, he⟩ := cond_some he
      simp only [Bool.and_eq_true] at hg
      have hb' := below_alloc' w (.map #[] 0)
      have h' := h.newrow (site := site) (B := w.heap.size) (s := (1, 0)) (blk := .mp kt vt []) hf hb' (.inl ⟨Nat.le_refl _, by simp, by simp⟩) ⟨hg.2.1, hg.2.2, hg.1, w.heap.size, #[], 0, by simp [Rn], World.alloc_heap_new w _, ⟨rfl, rfl⟩, fun i hi => by simp at hi⟩
      refine wpIn_value hd ?_ (hn _ _ ⟨_, some (site, .mp kt vt [])⟩ _ _ (h'.put hb (.mp (b := w.heap.size) (by simp [Rn]))) .new he)
      simp only [execOp, hop, Option.map_none, Sem.run_bind]
      rfl
  case lookup t x ix ok =>
    have hx := h.val x
    have hi := h.val ix
    split at he <;> first | (cases he; done) | skip
    rename_i kt vt id hu hv1
    rw [hv1] at hx
    split at he <;> first | (cases he; done) | skip
    rename_i kt' vt' es hm
    split at he <;> first | (cases he; done) | skip
    rename_i k z hk hz
    obtain ⟨hg, he2⟩ := cond_some he
    simp only [Bool.and_eq_true] at hg
    obtain rfl := Nat.eq_of_beq_eq_true hg.1
    obtain rfl := Nat.eq_of_beq_eq_true hg.2
    obtain ⟨k1, k2, k3, b, en, cl, g1, g2, ⟨g3, gcl⟩, g4⟩ := (by simpa [hm] using h.mem id : RowOK P D R w id (.mp kt vt es))
    obtain ⟨tk, vk⟩ := asT_sound hk hi
    obtain ⟨i, zv, z1, z2, tz, vz⟩ := zeroT_sound (P := P) (D := D) (R := R) (w := w) hz
    have pk := plain_TV k3 tk
    have ek := toV_plain pk vk
    generalize hax : a.eval x = xv at hx
    cases hx with
    | @mp _ b' hR =>
    obtain rfl : b' = b := by rw [hR] at g1; simpa using g1
    have hent : Ent P kt es en.toList := ⟨by simpa using g3, fun i hi => by
      obtain ⟨q1, q2, q3, q4, q5, q6⟩ := g4 i hi
      refine ⟨q1, q2, ?_⟩
      simpa [Array.getD_eq_getD_getElem?, List.getD_eq_getElem?_getD] using q4⟩
    have hfind := find_key (w := w) k3 tk pk hent
    have hck := check_ok (w := w) k3 tk en.isEmpty 9998
    -- what is found
    have key : ∃ v' , VR P D R w (mval P vt z k es) v' ∧ (Instr.lookup t (.map (some b')) (a.eval ix) ok).run P w = .ok (if ok then .tuple #[v', .bool (mhas k es)] else v') w := by
      have hg' := mfind_get k es 0
      cases hmf : mfind k es 0 with
      | none =>
        rw [hmf] at hg' hfind
        refine ⟨zv, ?_, ?_⟩
        · simp only [mval, ← hg', Option.map_none, Option.getD_none]
          rw [projT_TV tz]; exact vz
        · have hh : mhas k es = false := by simp [mhas, ← hg']
          simp only [Instr.lookup, Sem.run_bind, run_underlying' hu, Result.andThen_ok, Go.MapKept.run_getObj_map g2, Sem.run_pure, ek, hck, hfind, Option.map_none, hh]
          simp [zeroValue, typeInfo, z1, z2]
          try (cases ok <;> rfl)
      | some p =>
        obtain ⟨j, v⟩ := p
        rw [hmf] at hg' hfind
        obtain ⟨m, e0, k', e1, e2⟩ := mfind_at hmf
        obtain rfl : j = m := by omega
        have hj : j < es.length := (List.getElem?_eq_some_iff.1 e1).1
        have hev : es.getD j (.u, .u) = (k', v) := by simp [List.getD_eq_getElem?_getD, e1]
        obtain ⟨q1, q2, q3, q4, q5, q6⟩ := g4 j hj
        rw [hev] at q3 q5
        refine ⟨(en.toList.getD j default).val, ?_, ?_⟩
        · simp only [mval, ← hg', Option.map_some, Option.getD_some]
          rw [projT_TV q3]
          simpa [Array.getD_eq_getD_getElem?, List.getD_eq_getElem?_getD] using q5
        · have hh : mhas k es = true := by simp [mhas, ← hg']
          simp only [Instr.lookup, Sem.run_bind, run_underlying' hu, Result.andThen_ok, Go.MapKept.run_getObj_map g2, Sem.run_pure, ek, hck, hfind, Option.map_some, hh]
          try (cases ok <;> rfl)
    obtain ⟨v', q1, q2⟩ := key
    have hrun : (execOp a.eval o).run P w = .ok (.value (if ok then .tuple #[v', .bool (mhas k es)] else v')) w := by
      simp only [execOp, hop, hax, Sem.run_bind, q2, Result.andThen_ok, Sem.run_pure]
    cases ok with
    | true =>
      refine op_value h hb hn hd hrun (.tup (cs := [mval P vt z k es, .b (mhas k es)]) rfl fun j hj => ?_) he2
      match j, hj with
      | 0, _ => exact q1
      | 1, _ => exact .b
    | false => exact op_value h hb hn hd hrun q1 he2
  case mapUpdate t x kx vx =>
    have hx := h.val x
    have hi := h.val kx
    have hvv := h.val vx
    split at he <;> first | (cases he; done) | skip
    rename_i kt vt id hu hv1
    rw [hv1] at hx
    split at he <;> first | (cases he; done) | skip
    rename_i kt' vt' es hm
    split at he <;> first | (cases he; done) | skip
    rename_i k v hk hv
    obtain ⟨hg, he2⟩ := cond_some he
    simp only [Bool.and_eq_true] at hg
    obtain rfl := Nat.eq_of_beq_eq_true hg.1
    obtain rfl := Nat.eq_of_beq_eq_true hg.2
    obtain ⟨k1, k2, k3, b, en, cl, g1, g2, ⟨g3, gcl⟩, g4⟩ := (by simpa [hm] using h.mem id : RowOK P D R w id (.mp kt vt es))
    obtain ⟨tk, vk⟩ := asT_sound hk hi
    obtain ⟨tv, vv⟩ := asT_sound hv hvv
    have pk := plain_TV k3 tk
    have ek := toV_plain pk vk
    generalize hax : a.eval x = xv at hx
    cases hx with
    | @mp _ b' hR =>
    obtain rfl : b' = b := by rw [hR] at g1; simpa using g1
    have hent : Ent P kt es en.toList := ⟨by simpa using g3, fun i hi => by
      obtain ⟨q1, q2, q3, q4, q5, q6⟩ := g4 i hi
      refine ⟨q1, q2, ?_⟩
      simpa [Array.getD_eq_getD_getElem?, List.getD_eq_getElem?_getD] using q4⟩
    have hfind := find_key (w := w) k3 tk pk hent
    have hck := check_ok (w := w) k3 tk false 9998
    have hbl := (Array.getElem?_eq_some_iff.1 g2).1
    -- the entries behind it
    have key : ∃ en' cl', (Instr.mapUpdate t (.map (some b')) (a.eval kx) (a.eval vx)).run P w = .ok () { w with heap := w.heap.setIfInBounds b' (.map en' cl') } ∧ (en'.size = (mset k v es).length ∧ cl' = (mset k v es).length) ∧
        ∀ i, i < (mset k v es).length → TV P kt ((mset k v es).getD i (.u, .u)).1 ∧ plain ((mset k v es).getD i (.u, .u)).1 = true ∧ TV P vt ((mset k v es).getD i (.u, .u)).2 ∧
          (en'.getD i default).key = toV ((mset k v es).getD i (.u, .u)).1 ∧ VR P D R w ((mset k v es).getD i (.u, .u)).2 (en'.getD i default).val ∧ (en'.getD i default).born = i := by
      cases hmf : mfind k es 0 with
      | none =>
        rw [hmf] at hfind
        have hset : mset k v es = es ++ [(k, v)] := mset_none es 0 hmf
        refine ⟨en.push { key := toV k, val := a.eval vx, born := cl }, cl + 1, ?_, by simp [hset, g3, gcl], fun i hi => ?_⟩
        · simp only [Instr.mapUpdate, Sem.run_bind, run_underlying' hu, Result.andThen_ok, Go.MapKept.run_getObj_map g2, ek, hck, hfind, Option.map_none, Go.MapKept.run_setObj_map _ g2]
        · rw [hset] at hi ⊢
          by_cases h1 : i < es.length
          · have e1 : (es ++ [(k, v)]).getD i (.u, .u) = es.getD i (.u, .u) := by simp [List.getD_eq_getElem?_getD, List.getElem?_append_left h1]
            have e2 : (en.push { key := toV k, val := a.eval vx, born := cl }).getD i default = en.getD i default := by
              have : i < en.size := by omega
              simp [Array.getD_eq_getD_getElem?, Array.getElem?_push, show ¬ i = en.size by omega]
            rw [e1, e2]
            exact g4 i h1
          · have h2 : i = es.length := by simp at hi; omega
            have e1 : (es ++ [(k, v)]).getD i (.u, .u) = (k, v) := by simp [List.getD_eq_getElem?_getD, h2]
            have e2 : (en.push { key := toV k, val := a.eval vx, born := cl }).getD i default = { key := toV k, val := a.eval vx, born := cl } := by
              have h3 : i = en.size := by omega
              subst h3
              simp [Array.getD_eq_getD_getElem?, Array.getElem?_push]
            rw [e1, e2]
            exact ⟨tk, pk, tv, rfl, vv, by show cl = i; omega⟩
      | some p =>
        obtain ⟨j, v0⟩ := p
        rw [hmf] at hfind
        obtain ⟨m, e0, k', e1, e2⟩ := mfind_at hmf
        obtain rfl : j = m := by omega
        have hj : j < es.length := (List.getElem?_eq_some_iff.1 e1).1
        have hjn : j < en.size := by omega
        have hev : es.getD j (.u, .u) = (k', v0) := by simp [List.getD_eq_getElem?_getD, e1]
        obtain ⟨q1, q2, q3, q4, q5, q6⟩ := g4 j hj
        rw [hev] at q2 q4
        obtain rfl : k = k' := (sameV_eq pk q2).1 e2
        have hset : mset k v es = es.set j (k, v) := by simpa using mset_some (v := v) es 0 hmf
        have hkey : en[j].key = toV k := by simpa [Array.getD_eq_getD_getElem?, hjn] using q4
        have hstay : (Instr.keyThatStays (toV k) (toV k)).run P w = .ok (toV k) w := by
          simp [Instr.keyThatStays, bits_self k3 tk 9999]
        refine ⟨en.modify j fun e => { e with key := toV k, val := a.eval vx }, cl, ?_, by simp [hset, g3, gcl], fun i hi => ?_⟩
        · simp only [Instr.mapUpdate, Sem.run_bind, run_underlying' hu, Result.andThen_ok, Go.MapKept.run_getObj_map g2, ek, hck, hfind, Option.map_some]
          have : ((en[j]?).map (·.key)).getD (toV k) = toV k := by simp [hjn, hkey]
          rw [this]
          simp only [hstay, Result.andThen_ok, Go.MapKept.run_setObj_map _ g2]
        · rw [hset] at hi ⊢
          have hi' : i < es.length := by simpa using hi
          have hin : i < en.size := by omega
          by_cases h1 : j = i
          · subst h1
            have e3 : (es.set j (k, v)).getD j (.u, .u) = (k, v) := by simp [List.getD_eq_getElem?_getD, hj]
            have e4 : (en.modify j fun e => { e with key := toV k, val := a.eval vx }).getD j default = { en[j] with key := toV k, val := a.eval vx } := by
              simp [Array.getD_eq_getD_getElem?, hjn, Array.getElem_modify]
            rw [e3, e4]
            exact ⟨tk, pk, tv, rfl, vv, by simpa [Array.getD_eq_getD_getElem?, hjn] using q6⟩
          · have e3 : (es.set j (k, v)).getD i (.u, .u) = es.getD i (.u, .u) := by simp [List.getD_eq_getElem?_getD, List.getElem?_set, h1]
            have e4 : (en.modify j fun e => { e with key := toV k, val := a.eval vx }).getD i default = en.getD i default := by
              simp [Array.getD_eq_getD_getElem?, Array.getElem?_modify, h1]
            rw [e3, e4]
            exact g4 i hi'
    obtain ⟨en', cl', q1, q2, q3⟩ := key
    have hst := h.rewrite (id := id) (b := b') (s := (1, 0)) (w' := { w with heap := w.heap.setIfInBounds b' (.map en' cl') }) (blk := .mp kt vt (mset k v es)) hR (by simp) (by rw [hm]; rfl) (by rw [hm]; intro _; trivial) (fun j hj => by simp [Ne.symm hj]) (by simp) rfl rfl rfl (fun _ h => by cases h)
      fun mono => ⟨k1, k2, k3, b', en', cl', hR, by simp [hbl], q2, fun i hi => by
        obtain ⟨p1, p2, p3, p4, p5, p6⟩ := q3 i hi
        exact ⟨p1, p2, p3, p4, mono p5, p6⟩⟩
    refine wpIn_skip' hd ?_ (hn D R ⟨_, some (id, _)⟩ _ _ (hst.put hb VR_undef) .refl he2)
    simp only [execOp, hop, hax, Sem.run_bind, q1, Result.andThen_ok, Sem.run_pure]
  case mapEntry t x kx =>
    have hx := h.val x
    have hi := h.val kx
    split at he <;> first | (cases he; done) | skip
    rename_i kt vt id hu hv1
    rw [hv1] at hx
    split at he <;> first | (cases he; done) | skip
    rename_i kt' vt' es hm
    split at he <;> first | (cases he; done) | skip
    rename_i k z hk hz
    obtain ⟨hg, he2⟩ := cond_some he
    simp only [Bool.and_eq_true, Nat.blt_eq] at hg
    obtain ⟨hg, hlen⟩ := hg
    obtain rfl := Nat.eq_of_beq_eq_true hg.1
    obtain rfl := Nat.eq_of_beq_eq_true hg.2
    obtain ⟨k1, k2, k3, b, en, cl, g1, g2, ⟨g3, gcl⟩, g4⟩ := (by simpa [hm] using h.mem id : RowOK P D R w id (.mp kt vt es))
    obtain ⟨tk, vk⟩ := asT_sound hk hi
    obtain ⟨i, zv, z1, z2, tz, vz⟩ := zeroT_sound (P := P) (D := D) (R := R) (w := w) hz
    have pk := plain_TV k3 tk
    have ek := toV_plain pk vk
    generalize hax : a.eval x = xv at hx
    cases hx with
    | @mp _ b' hR =>
    obtain rfl : b' = b := by rw [hR] at g1; simpa using g1
    have hent : Ent P kt es en.toList := ⟨by simpa using g3, fun i hi => by
      obtain ⟨q1, q2, q3, q4, q5, q6⟩ := g4 i hi
      refine ⟨q1, q2, ?_⟩
      simpa [Array.getD_eq_getD_getElem?, List.getD_eq_getElem?_getD] using q4⟩
    have hfind := find_key (w := w) k3 tk pk hent
    have hck := check_ok (w := w) k3 tk false 9998
    have hbl := (Array.getElem?_eq_some_iff.1 g2).1
    have key : ∃ v0 en' cl', (Instr.mapEntry t (.map (some b')) (a.eval kx)).run P w = .ok (.tuple #[v0, goInt (mpos k es)]) { w with heap := w.heap.setIfInBounds b' (.map en' cl') } ∧ VR P D R w (mval P vt z k es) v0 ∧ mpos k es ≤ es.length ∧ (en'.size = (madd k z es).length ∧ cl' = (madd k z es).length) ∧
        ∀ i, i < (madd k z es).length → TV P kt ((madd k z es).getD i (.u, .u)).1 ∧ plain ((madd k z es).getD i (.u, .u)).1 = true ∧ TV P vt ((madd k z es).getD i (.u, .u)).2 ∧
          (en'.getD i default).key = toV ((madd k z es).getD i (.u, .u)).1 ∧ VR P D R w ((madd k z es).getD i (.u, .u)).2 (en'.getD i default).val ∧ (en'.getD i default).born = i := by
      have hg' := mfind_get k es 0
      cases hmf : mfind k es 0 with
      | none =>
        rw [hmf] at hfind hg'
        have hset : madd k z es = es ++ [(k, z)] := madd_none es 0 hmf
        have hpos : mpos k es = es.length := mpos_none es 0 hmf
        refine ⟨zv, en.push { key := toV k, val := zv, born := cl }, cl + 1, ?_, ?_, by omega, by simp [hset, g3, gcl], fun i hi => ?_⟩
        · rw [hpos, ← gcl]
          simp only [Instr.mapEntry, Sem.run_bind, run_underlying' hu, Result.andThen_ok, Go.MapKept.run_getObj_map g2, ek, hck, hfind, Option.map_none]
          simp [zeroValue, typeInfo, z1, z2, Go.MapKept.run_setObj_map _ g2]
        · simp only [mval, ← hg', Option.map_none, Option.getD_none]
          rw [projT_TV tz]; exact vz
        · rw [hset] at hi ⊢
          by_cases h1 : i < es.length
          · have e1 : (es ++ [(k, z)]).getD i (.u, .u) = es.getD i (.u, .u) := by simp [List.getD_eq_getElem?_getD, List.getElem?_append_left h1]
            have e2 : (en.push { key := toV k, val := zv, born := cl }).getD i default = en.getD i default := by
              have : i < en.size := by omega
              simp [Array.getD_eq_getD_getElem?, Array.getElem?_push, show ¬ i = en.size by omega]
            rw [e1, e2]
            exact g4 i h1
          · have h2 : i = es.length := by simp at hi; omega
            have e1 : (es ++ [(k, z)]).getD i (.u, .u) = (k, z) := by simp [List.getD_eq_getElem?_getD, h2]
            have e2 : (en.push { key := toV k, val := zv, born := cl }).getD i default = { key := toV k, val := zv, born := cl } := by
              have h3 : i = en.size := by omega
              subst h3
              simp [Array.getD_eq_getD_getElem?, Array.getElem?_push]
            rw [e1, e2]
            exact ⟨tk, pk, tz, rfl, vz, by show cl = i; omega⟩
      | some p =>
        obtain ⟨j, v0⟩ := p
        rw [hmf] at hfind hg'
        obtain ⟨m, e0, k', e1, e2⟩ := mfind_at hmf
        obtain rfl : j = m := by omega
        have hj : j < es.length := (List.getElem?_eq_some_iff.1 e1).1
        have hjn : j < en.size := by omega
        have hev : es.getD j (.u, .u) = (k', v0) := by simp [List.getD_eq_getElem?_getD, e1]
        obtain ⟨q1, q2, q3, q4, q5, q6⟩ := g4 j hj
        rw [hev] at q2 q3 q4 q5
        obtain rfl : k = k' := (sameV_eq pk q2).1 e2
        have hset : madd k z es = es := madd_some es 0 hmf
        have hpos : mpos k es = j := by simpa using mpos_some es 0 hmf
        have hkey : en[j].key = toV k := by simpa [Array.getD_eq_getD_getElem?, hjn] using q4
        have hborn : en[j].born = j := by simpa [Array.getD_eq_getD_getElem?, hjn] using q6
        have hval : VR P D R w v0 en[j].val := by simpa [Array.getD_eq_getD_getElem?, hjn] using q5
        have hstay : (Instr.keyThatStays (toV k) (toV k)).run P w = .ok (toV k) w := by
          simp [Instr.keyThatStays, bits_self k3 tk 9999]
        refine ⟨en[j].val, en.modify j fun e => { e with key := toV k }, cl, ?_, ?_, by omega, by simp [hset, g3, gcl], fun i hi => ?_⟩
        · simp only [Instr.mapEntry, Sem.run_bind, run_underlying' hu, Result.andThen_ok, Go.MapKept.run_getObj_map g2, ek, hck, hfind, Option.map_some]
          have e5 : ((en[j]?).map (·.key)).getD (toV k) = toV k := by simp [hjn, hkey]
          have e6 : ((en[j]?).map (fun x => (x.born : Int))).getD 0 = j := by simp [hjn, hborn]
          have e7 : (en.toList.getD j default).val = en[j].val := by simp [List.getD_eq_getElem?_getD, hjn]
          rw [e5, hpos]
          simp only [hstay, Result.andThen_ok, Go.MapKept.run_setObj_map _ g2, e6, e7, Sem.run_pure]
        · simp only [mval, ← hg', Option.map_some, Option.getD_some]
          rw [projT_TV q3]; exact hval
        · rw [hset] at hi ⊢
          have hin : i < en.size := by omega
          by_cases h1 : j = i
          · subst h1
            have e4 : (en.modify j fun e => { e with key := toV k }).getD j default = { en[j] with key := toV k } := by
              simp [Array.getD_eq_getD_getElem?, hjn, Array.getElem_modify]
            rw [hev, e4]
            exact ⟨tk, pk, q3, rfl, hval, hborn⟩
          · have e4 : (en.modify j fun e => { e with key := toV k }).getD i default = en.getD i default := by
              simp [Array.getD_eq_getD_getElem?, Array.getElem?_modify, h1]
            rw [e4]
            exact g4 i hi
    obtain ⟨v0, en', cl', q1, qv, qp, q2, q3⟩ := key
    have mono : ∀ {x : AV} {v : Value}, VR P D R w x v → VR P D R { w with heap := w.heap.setIfInBounds b' (.map en' cl') } x v := fun hv => hv.mono (fun _ _ e => e) (fun k hlt => by
      by_cases hk : k = b'
      · exact .inl fun o => hk ▸ h.dom id b' _ o hR (by rw [hm]; trivial)
      · exact .inr ⟨fun _ hd => hd, by simp [Ne.symm hk]⟩)
    have hst := h.rewrite (id := id) (b := b') (s := (1, 0)) (w' := { w with heap := w.heap.setIfInBounds b' (.map en' cl') }) (blk := .mp kt vt (madd k z es)) hR (by simp) (by rw [hm]; rfl) (by rw [hm]; intro _; trivial) (fun j hj => by simp [Ne.symm hj]) (by simp) rfl rfl rfl (fun _ h => by cases h)
      fun mono => ⟨k1, k2, k3, b', en', cl', hR, by simp [hbl], q2, fun i hi => by
        obtain ⟨p1, p2, p3, p4, p5, p6⟩ := q3 i hi
        exact ⟨p1, p2, p3, p4, mono p5, p6⟩⟩
    refine wpIn_value hd ?_ (hn D R ⟨_, some (id, _)⟩ _ _ (hst.put hb (v' := .tuple #[v0, goInt (mpos k es)]) (.tup rfl fun j hj => ?_)) .refl he2)
    · simp only [execOp, hop, hax, Sem.run_bind, q1, Result.andThen_ok, Sem.run_pure]
    · match j, hj with
      | 0, _ => exact mono qv
      | 1, _ => exact .i (by simp [IntKind.min, IntKind.signed, IntKind.bits] <;> omega) (by simp [IntKind.max, IntKind.signed, IntKind.bits] <;> omega)
  case entryStore t x sx vx =>
    have hx := h.val x
    have hi := h.val sx
    have hvv := h.val vx
    split at he <;> first | (cases he; done) | skip
    rename_i kt vt id n hu hv1 hv2
    rw [hv1] at hx
    rw [hv2] at hi
    obtain ⟨es0, _, _⟩ := hi.int_inv
    split at he <;> first | (cases he; done) | skip
    rename_i kt' vt' es hm
    split at he <;> first | (cases he; done) | skip
    rename_i v hv
    obtain ⟨hg, he2⟩ := cond_some he
    simp only [Bool.and_eq_true, decide_eq_true_eq] at hg
    obtain ⟨hg, hn0, hnl⟩ := hg
    obtain rfl := Nat.eq_of_beq_eq_true hg.1
    obtain rfl := Nat.eq_of_beq_eq_true hg.2
    obtain ⟨k1, k2, k3, b, en, cl, g1, g2, ⟨g3, gcl⟩, g4⟩ := (by simpa [hm] using h.mem id : RowOK P D R w id (.mp kt vt es))
    obtain ⟨tv, vv⟩ := asT_sound hv hvv
    generalize hax : a.eval x = xv at hx
    cases hx with
    | @mp _ b' hR =>
    obtain rfl : b' = b := by rw [hR] at g1; simpa using g1
    have hbl := (Array.getElem?_eq_some_iff.1 g2).1
    obtain ⟨m, rfl⟩ : ∃ m : Nat, n = m := ⟨n.toNat, by omega⟩
    have hml : m < es.length := by omega
    have hmn : m < en.size := by omega
    have hbn : ∀ i (hi : i < en.size), en[i].born = i := fun i hi => by
      have := (g4 i (by omega)).2.2.2.2.2
      simpa [Array.getD_eq_getD_getElem?, hi] using this
    have hidx : en.findIdx? (fun e => (e.born : Int) == (m : Int)) = some m := by
      rw [Array.findIdx?_eq_some_iff_getElem]
      refine ⟨hmn, by simp [hbn m hmn], fun j hj => ?_⟩
      have := hbn j (by omega)
      simp [this]
      omega
    have hlen : (mput m v es).length = es.length := by simp [mput]
    have q3 : ∀ i, i < (mput m v es).length → TV P kt ((mput m v es).getD i (.u, .u)).1 ∧ plain ((mput m v es).getD i (.u, .u)).1 = true ∧ TV P vt ((mput m v es).getD i (.u, .u)).2 ∧
          ((en.modify m fun e => { e with val := a.eval vx }).getD i default).key = toV ((mput m v es).getD i (.u, .u)).1 ∧ VR P D R w ((mput m v es).getD i (.u, .u)).2 ((en.modify m fun e => { e with val := a.eval vx }).getD i default).val ∧ ((en.modify m fun e => { e with val := a.eval vx }).getD i default).born = i := fun i hi => by
      rw [hlen] at hi
      have hin : i < en.size := by omega
      obtain ⟨p1, p2, p3, p4, p5, p6⟩ := g4 i hi
      have e0 : es.getD i (.u, .u) = es[i] := by simp [List.getD_eq_getElem?_getD, hi]
      have e00 : en.getD i default = en[i] := by simp [Array.getD_eq_getD_getElem?, hin]
      rw [e0] at p1 p2 p3 p4 p5
      rw [e00] at p4 p5 p6
      by_cases h1 : m = i
      · subst h1
        have e3 : (mput m v es).getD m (.u, .u) = (es[m].1, v) := by simp [mput, List.getD_eq_getElem?_getD, List.getElem?_modify, hi]
        have e4 : (en.modify m fun e => { e with val := a.eval vx }).getD m default = { en[m] with val := a.eval vx } := by
          simp [Array.getD_eq_getD_getElem?, hmn, Array.getElem_modify]
        rw [e3, e4]
        exact ⟨p1, p2, tv, p4, vv, p6⟩
      · have e3 : (mput m v es).getD i (.u, .u) = es[i] := by simp [mput, List.getD_eq_getElem?_getD, List.getElem?_modify, hi, h1]
        have e4 : (en.modify m fun e => { e with val := a.eval vx }).getD i default = en[i] := by
          simp [Array.getD_eq_getD_getElem?, hin, Array.getElem_modify, h1]
        rw [e3, e4]
        exact ⟨p1, p2, p3, p4, p5, p6⟩
    have hst := h.rewrite (id := id) (b := b') (s := (1, 0)) (w' := { w with heap := w.heap.setIfInBounds b' (.map (en.modify m fun e => { e with val := a.eval vx }) cl) }) (blk := .mp kt vt (mput m v es)) hR (by simp) (by rw [hm]; rfl) (by rw [hm]; intro _; trivial) (fun j hj => by simp [Ne.symm hj]) (by simp) rfl rfl rfl (fun _ h => by cases h)
      fun mono => ⟨k1, k2, k3, b', en.modify m fun e => { e with val := a.eval vx }, cl, hR, by simp [hbl], ⟨by rw [hlen]; simpa using g3, by rw [hlen]; exact gcl⟩, fun i hi => by
        obtain ⟨p1, p2, p3, p4, p5, p6⟩ := q3 i hi
        exact ⟨p1, p2, p3, p4, mono p5, p6⟩⟩
    refine wpIn_skip' hd ?_ (hn D R ⟨_, some (id, _)⟩ _ _ (hst.put hb VR_undef) .refl (by simpa using he2))
    simp only [execOp, hop, hax, Instr.entryStore, Sem.run_bind, Go.MapKept.run_getObj_map g2, Result.andThen_ok, es0, asInt, asIntOf, Sem.run_pure, hidx, Go.MapKept.run_setObj_map _ g2]
  case range t x =>
    have hx := h.val x
    split at he <;> first | (cases he; done) | skip
    rename_i s hu hv
    rw [hv] at hx
    obtain ⟨ex, hsz⟩ := hx.str_inv
    have hb' := below_alloc' w (.stringIter s 0)
    have h' := h.newrow (site := site) (B := w.heap.size) (s := (1, 0)) (blk := .si s 0) hf hb' (.inl ⟨Nat.le_refl _, by simp, by simp⟩) ⟨hsz, w.heap.size, by simp [Rn], World.alloc_heap_new w _⟩
    refine wpIn_value hd ?_ (hn _ _ ⟨_, some (site, .si s 0)⟩ _ _ (h'.put hb (.it (b := w.heap.size) (by simp [Rn]))) .new he)
    simp only [execOp, hop, ex]
    simp [Instr.range, run_underlying' hu, newObj, Sem.run]
  case next x isS =>
    cases isS with
    | false => cases he
    | true =>
      have hx := h.val x
      simp only at he
      split at he <;> first | (cases he; done) | skip
      rename_i id hv
      rw [hv] at hx
      split at he <;> first | (cases he; done) | skip
      rename_i s p hm
      obtain ⟨k1, b, g1, g2⟩ := (by simpa [hm] using h.mem id : RowOK P D R w id (.si s p))
      have hbl := (Array.getElem?_eq_some_iff.1 g2).1
      generalize hax : a.eval x = xv at hx
      cases hx with
      | @it _ b' hR =>
      obtain rfl : b' = b := by rw [hR] at g1; simpa using g1
      have hget : (getObj b').run P w = .ok (.stringIter s p) w := by simp [getObj, Sem.run, g2]
      cases hlt : Nat.blt p s.size with
      | true =>
        rw [hlt] at he
        simp only [cond_true] at he
        have hlt' : p < s.size := by simpa [Nat.blt_eq] using hlt
        obtain ⟨d1, d2⟩ := decode_bounds s p
        have hst := h.rewrite (id := id) (b := b') (s := (1, 0)) (w' := { w with heap := w.heap.setIfInBounds b' (.stringIter s (p + (Utf8.decode s p).2)) }) (blk := .si s (p + (Utf8.decode s p).2)) hR (by simp) (by rw [hm]; rfl) (by rw [hm]; intro _; trivial) (fun j hj => by simp [Ne.symm hj]) (by simp) rfl rfl rfl (fun _ h => by cases h)
          fun mono => ⟨k1, b', hR, by simp [hbl]⟩
        refine wpIn_value hd ?_ (hn D R ⟨_, some (id, _)⟩ _ _ (hst.put hb (v' := .tuple #[.bool true, goInt p, .int .i32 (Utf8.decode s p).1]) (.tup rfl fun j hj => ?_)) .refl he)
        · simp only [execOp, hop, hax]
          simp [Instr.next, hget, hlt', setObj, Sem.run, g2]
        · match j, hj with
          | 0, _ => exact .b
          | 1, _ => exact .i (by simp [IntKind.min, IntKind.signed, IntKind.bits] <;> omega) (by simp [IntKind.max, IntKind.signed, IntKind.bits] <;> omega)
          | 2, _ => exact .i (by simp [IntKind.min, IntKind.signed, IntKind.bits] <;> omega) (by simp [IntKind.max, IntKind.signed, IntKind.bits] <;> omega)
      | false =>
        rw [hlt] at he
        simp only [cond_false] at he
        have hlt' : ¬ p < s.size := by
          intro hc
          have : Nat.blt p s.size = true := by simpa [Nat.blt_eq] using hc
          rw [hlt] at this; cases this
        have hst := h.rewrite (id := id) (b := b') (s := (1, 0)) (w' := w) (blk := .si s p) hR (by simp) (by rw [hm]; rfl) (by rw [hm]; intro _; trivial) (fun j hj => rfl) rfl rfl rfl rfl (fun _ h => by cases h)
          fun mono => ⟨k1, b', hR, g2⟩
        refine wpIn_value hd ?_ (hn D R ⟨_, some (id, _)⟩ _ _ (hst.put hb (v' := .tuple #[.bool false]) (.tup rfl fun j hj => ?_)) .refl he)
        · simp only [execOp, hop, hax]
          simp [Instr.next, hget, hlt']
        · match j, hj with
          | 0, _ => exact .b
  case makeFunc fn first caps =>
    cases fn <;> simp only at he <;> first | (cases he; done) | skip
    rename_i f
    obtain ⟨hc, he⟩ := cond_some he
    have h0 : first = #[] := by
      have := Nat.eq_of_beq_eq_true hc
      exact Array.eq_empty_of_size_eq_zero this
    subst h0
    refine op_value h hb hn hd (v' := .func (.func f) #[] (caps.map a.eval)) ?_ (.fn (by simp) (fun k hk => ?_)) he
    · simp only [execOp, hop]; simp [Instr.makeFunc]
    · have := args_at h caps.toList k hk
      simpa [Array.getD_eq_getD_getElem?, List.getD_eq_getElem?_getD] using this
  case box t x =>
    split at he <;> first | (cases he; done) | skip
    rename_i cs hfit
    obtain ⟨g1, g2, g3, _⟩ := fit_sound hfit (h.val x)
    refine fresh_sound h hf hb hn hd g1 g2 g3 ?_ he
    simp only [execOp, hop, Sem.run_bind, run_box', Result.andThen_ok, Sem.run_pure]
  case buildSlice t n parts =>
    split at he <;> first | (cases he; done) | skip
    rename_i e hu
    split at he <;> first | (cases he; done) | skip
    rename_i z hz
    obtain ⟨hg, he⟩ := cond_some he
    simp only [Bool.and_eq_true] at hg
    have hbig : n * P.cellsOf e ≤ 16777216 := Nat.le_of_ble_eq_true hg.1
    have hzl : z.length = P.cellsOf e := Nat.eq_of_beq_eq_true hg.2
    split at he <;> first | (cases he; done) | skip
    rename_i cs hfill
    split at he <;> first | (cases he; done) | skip
    rename_i es hrows
    obtain ⟨i, zv, z1, z2, z3, z4, z5⟩ := zeroOf_sound (P := P) (D := D) (R := R) (w := w) hz
    have hcl : (cts P e).length = P.cellsOf e := by rw [← z3.1, hzl]
    have hzs : zv.cells.size = P.cellsOf e := by rw [z4, hzl]
    have hflat : ((List.replicate n z).flatten).length = n * P.cellsOf e := by simp [hzl]
    obtain ⟨cv, g1, g2, g3⟩ := fill_sound (P := P) (D := D) (R := R) (w := w) (pc := fun i => some (i * P.cellsOf e, P.cellsOf e)) (pv := parts.toList.map fun p => (p.1, a.eval p.2))
      (cv := (Array.range (n * P.cellsOf e)).map fun k => zv.cells[k % zv.cells.size]!)
      (fun i x hx => by simp only [Option.some.injEq] at hx; subst hx; rfl)
      hfill (by simp [hzl]) (fun k hk => by
        rw [hflat] at hk
        have hpos : 0 < P.cellsOf e := by
          rcases Nat.eq_zero_or_pos (P.cellsOf e) with h0 | h0
          · rw [h0] at hk; omega
          · exact h0
        have hlt := Nat.mod_lt k hpos
        have := z5 (k % P.cellsOf e) (by omega)
        rw [getD_flat z .u n k (by rw [hzl]; exact hk), hzl]
        simpa [Array.getD_eq_getD_getElem?, hk, hzs, hlt, getElem!_def] using this) (by simp) (fun k hk => by
        simp only [List.length_map] at hk
        rw [getD_map _ _ _ (0, .const Go.undef) _ hk, getD_map _ _ _ (0, .const Go.undef) _ hk]
        exact ⟨rfl, h.val _⟩)
    have hcsl : cs.length = n * P.cellsOf e := by rw [fill_length hfill, hflat]
    obtain ⟨q1, q2, q3⟩ := chunk_rows (P := P) (D := D) (R := R) (w := w) hcl (cv := cv.toList) hrows hcsl (by simpa using g2) (fun k hk => by
      have := g3 k hk
      simpa [Array.getD_eq_getD_getElem?, List.getD_eq_getElem?_getD] using this)
    refine freshRow_sound h hf hb hn hd (c := n) (cv := cv) (by omega) (fun h0 => by rw [h0] at q1; simpa using q1.symm) q2 (by rw [q1]; omega) (fun i j hi hj => ?_) ?_ he
    · have := q3 i j (by omega) hj
      simpa [Array.getD_eq_getD_getElem?, List.getD_eq_getElem?_getD] using this
    · have hparts : (parts.map fun x => match x with | (i, x) => (i, a.eval x)).toList = parts.toList.map fun p => (p.1, a.eval p.2) := by simp
      have hsz : (sizeOf e).run P w = .ok (P.cellsOf e) w := by simp [sizeOf, typeInfo, z1, Program.cellsOf]
      have hzv : (zeroValue e).run P w = .ok zv w := by simp [zeroValue, typeInfo, z1, z2]
      simp only [execOp, hop, Sem.run_bind, Sem.run_pure]
      have hno : ¬ n * P.cellsOf e > 2 ^ 24 := by omega
      rw [q1]
      simp only [Instr.buildSlice, Sem.run_bind, run_underlying' hu, Result.andThen_ok, hsz, hno, if_false, Sem.run_pure, hparts]
      by_cases h0 : n * P.cellsOf e = 0
      · simp only [h0, if_true, Sem.run_bind, Sem.run_pure, Result.andThen_ok] at g1 ⊢
        have e0 : ((Array.range 0).map fun k => (#[] : Array Value)[k % (#[] : Array Value).size]!) = (Array.range 0).map fun k => zv.cells[k % zv.cells.size]! := by simp
        rw [e0, g1]
        simp [newRow, newObj, Sem.run]
      · simp only [h0, if_false, Sem.run_bind, hzv, Sem.run_pure, Result.andThen_ok]
        rw [g1]
        simp [newRow, newObj, Sem.run]
  case alloc t =>
    cases hRO : RO (1000000 + t) with
    | true =>
      rw [hRO] at he
      simp only [cond_true] at he
      split at he <;> first | (cases he; done) | skip
      rename_i cs hz
      obtain ⟨i, zv, z1, z2, z3, z4, z5⟩ := zeroOf_sound (P := P) (D := D) (R := R) (w := w) hz
      refine fresh_sound h hf hb hn hd z3 z4 z5 ?_ he
      simp only [execOp, hop, Sem.run_bind, run_alloc' z1 z2, Result.andThen_ok, Sem.run_pure]
    | false =>
      rw [hRO] at he
      simp only [cond_false] at he
      split at he <;> first | (cases he; done) | skip
      rename_i cs hz
      obtain ⟨i, zv, z1, z2, _, z4, z5⟩ := zeroK_sound (P := P) (D := D) (R := R) (w := w) hz
      refine freshL_sound h hf hb hn hd z4 z5 ?_ he
      simp only [execOp, hop, Sem.run_bind, run_alloc' z1 z2, Result.andThen_ok, Sem.run_pure]
  case store t x v =>
    have hx := h.val x
    have hv := h.val v
    generalize hax : a.eval x = xv at hx
    generalize hav : a.eval v = vv at hv
    have at3 : ∀ {cs : List AV}, (∀ k, k < cs.length → VR P D R w (cs.getD k .u) (vv.cells.getD k undef)) → ∀ k, k < cs.length → VR P D R w (cs.getD k .u) (vv.cells.toList.getD k undef) := fun q3 k hk => by
      have := q3 k hk
      simpa [Array.getD_eq_getD_getElem?, List.getD_eq_getElem?_getD] using this
    split at he <;> first | (cases he; done) | skip
    rename_i id i j hv1
    rw [hv1] at hx
    cases hx with
    | @p _ _ _ b' sz hR =>
    -- a store, once it is known what is stored and that the row is there
    have fin : ∀ (e : TypeId) (es : List (List AV)) (cs : List AV) (blk : Blk), (gm st.m id = .row e es ∨ gm st.m id = .lrow e es) → (okT P t && (ctsAt (cts P e) j (cts P t) && Nat.blt i es.length)) = true → cs.length = (cts P t).length →
        vv.cells.size = cs.length → (∀ u ∈ vv.cells.toList, u.oneCell' = true) → K ⟨.tup [], some (id, blk)⟩ = some r →
        (∀ cells ty, R id = some (b', P.cellsOf e, 0) → w.heap[b']? = some (.cells cells ty (0, 0)) → j + cs.length ≤ P.cellsOf e → i < es.length → (∀ k, k < cs.length → (cts P e).getD (j + k) .oth = (cts P t).getD k .oth) →
          SR P w0 X D R (st.mem id blk) a (w.setRow b' (cells.toList.take (i * P.cellsOf e + j) ++ vv.cells.toList ++ cells.toList.drop (i * P.cellsOf e + j + vv.cells.toList.length)).toArray)) →
        o.wpIn (FW ro) n P a w next Q := by
      intro e es cs blk hm hc q1 q2 q4 he hst
      simp only [Bool.and_eq_true] at hc
      obtain ⟨ho, hc, hi⟩ := hc
      have hi : i < es.length := by simpa [Nat.blt_eq] using hi
      have hne : es ≠ [] := by intro e0; rw [e0] at hi; simp at hi
      obtain ⟨hl, hpos, _⟩ := okT_spec ho
      obtain ⟨b, cells, ty, m1, m2, m3, m4, m5⟩ : ∃ b cells ty, R id = some (b, P.cellsOf e, 0) ∧ w.heap[b]? = some (.cells cells ty (0, 0)) ∧ (cts P e).length = P.cellsOf e ∧ 0 < P.cellsOf e ∧ es.length * P.cellsOf e ≤ cells.size := by
        have hrow := h.mem id
        rcases hm with hm | hm
        · rw [hm] at hrow
          obtain ⟨b, cells, ty, m1, m2, m3, m4, m5, _⟩ := hrow hne
          exact ⟨b, cells, ty, m1, m2, m3, m4, m5⟩
        · rw [hm] at hrow
          obtain ⟨b, cells, ty, m1, m2, m3, m4, m5, _⟩ := hrow hne
          exact ⟨b, cells, ty, m1, m2, m3, m4, m5⟩
      obtain ⟨rfl, rfl⟩ : b' = b ∧ sz = P.cellsOf e := by rw [hR] at m1; simpa using m1
      have hspec := ctsAt_spec hc
      have hcl : cs.length = P.cellsOf t := by rw [q1, hl]
      have hin : j + cs.length ≤ P.cellsOf e := by
        have := (hspec (P.cellsOf t - 1) (by omega)).1
        omega
      have hst := hst cells ty hR m2 hin hi (fun k hk => (hspec k (by omega)).2)
      have hrow : i * P.cellsOf e + P.cellsOf e ≤ cells.size := by
        have := Nat.mul_le_mul_right (P.cellsOf e) (show i + 1 ≤ es.length by omega)
        rw [Nat.add_mul, Nat.one_mul] at this
        omega
      refine wpIn_skip' hd ?_ (hn D R ⟨_, some (id, _)⟩ _ _ (hst.put hb VR_undef) .refl he)
      simp only [execOp, hop, hax, hav, Sem.run_bind, Instr.storeAt, Instr.sureAddr, Sem.run_pure, Result.andThen_ok, storeVar, run_sizeOf' hpos]
      rw [if_neg (by rw [q2, hcl]; simp), run_storeCells_at P b' (i * P.cellsOf e + j) ty vv.cells.toList 0 cells w m2 (by simp; omega) q4]
      simp
    split at he <;> first | (cases he; done) | skip
    · rename_i e es hm
      obtain ⟨hc, he⟩ := cond_some he
      split at he
      · rename_i cs hfit
        have hfit : fitCs (cts P t) (cellsOf (val st v)) = some cs := by
          cases hk : RO (1000000 + t) with
          | true => rw [hk] at hfit; exact hfit
          | false => rw [hk] at hfit; cases hfit
        obtain ⟨q1, q2, q3, q4⟩ := fit_sound hfit hv
        exact fin e es cs _ (.inl hm) hc q1.1 q2 q4 he fun cells ty g1 g2 hin hi hty => h.store (new := cs) (nv := vv.cells.toList) hm g1 g2 hi hin (by simpa using q2) (fun k hk => by
          rw [hty k hk]
          exact q1.2 k hk) (at3 q3)
      · split at he <;> first | (cases he; done) | skip
        rename_i cs hfit
        obtain ⟨q1, q2, q3, q4⟩ := fitO_sound hfit hv
        exact fin e es cs _ (.inl hm) hc q1 q2 q4 he fun cells ty g1 g2 hin hi hty => h.storeL (new := cs) (nv := vv.cells.toList) (.inl hm) g1 g2 hi hin (by simpa using q2) (at3 q3)
    · rename_i e es hm
      obtain ⟨hc, he⟩ := cond_some he
      split at he <;> first | (cases he; done) | skip
      rename_i cs hfit
      obtain ⟨q1, q2, q3, q4⟩ := fitO_sound hfit hv
      exact fin e es cs _ (.inr hm) hc q1 q2 q4 he fun cells ty g1 g2 hin hi hty => h.storeL (new := cs) (nv := vv.cells.toList) (.inr hm) g1 g2 hi hin (by simpa using q2) (at3 q3)
  case slice t x lo hi mx =>
    cases mx with
    | some m => cases he
    | none =>
      have hx := h.val x
      generalize hax : a.eval x = xv at hx
      simp only at he
      split at he <;> first | (cases he; done) | skip
      · rename_i e e' es hu hv
        rw [hv] at hx
        split at he <;> first | (cases he; done) | skip
        rename_i k l k' q hl hq
        obtain ⟨hc, he2⟩ := cond_some he
        simp only [Bool.and_eq_true, decide_eq_true_eq] at hc
        obtain ⟨⟨hc1, hz⟩, h0, h1, h2⟩ := hc
        have := Nat.eq_of_beq_eq_true hc1
        subst this
        exact slice_rs h hb hn hd hop hu (by simpa [Nat.blt_eq] using hz) (numOf_spec h hl) (numOf_spec h hq) h0 h1 h2 (hax ▸ hx) he2
      · rename_i e id e' es hu hv
        rw [hv] at hx
        split at he <;> first | (cases he; done) | skip
        rename_i k l k' q hl hq
        obtain ⟨hc, he2⟩ := cond_some he
        simp only [Bool.and_eq_true, decide_eq_true_eq] at hc
        obtain ⟨⟨hc1, hz⟩, h0, h1, h2⟩ := hc
        have := Nat.eq_of_beq_eq_true hc1
        subst this
        exact slice_rs h hb hn hd hop hu (by simpa [Nat.blt_eq] using hz) (numOf_spec h hl) (numOf_spec h hq) h0 h1 h2 (hax ▸ hx.gv_rs) he2
      · rename_i e id off len hu hv
        rw [hv] at hx
        split at he <;> first | (cases he; done) | skip
        rename_i e' es hm
        split at he <;> first | (cases he; done) | skip
        rename_i k l k' q hl hq
        obtain ⟨hc, he2⟩ := cond_some he
        simp only [Bool.and_eq_true, decide_eq_true_eq] at hc
        obtain ⟨⟨hc1, hz, hfit⟩, h0, h1, h2⟩ := hc
        have hfit : off + len ≤ es.length := Nat.le_of_ble_eq_true hfit
        have := Nat.eq_of_beq_eq_true hc1
        subst this
        have hz : 0 < P.cellsOf e := by simpa [Nat.blt_eq] using hz
        have hlo := numOf_spec h hl
        have hhi := numOf_spec h hq
        have main : ∀ (ad : Option Addr) (c : Nat), len ≤ c → (Instr.sliceAt t (.slice ad len c) (lo.map a.eval) (hi.map a.eval) none).run P w =
            .ok (.slice (if c = l.toNat then ad else ad.map (·.add (l.toNat * P.cellsOf e))) (q.toNat - l.toNat) (c - l.toNat)) w := by
          intro ad c hc
          simp only [Instr.sliceAt, Sem.run_bind, run_underlying' hu, Result.andThen_ok, Instr.slice]
          rw [run_bounds hlo hhi h0 h1 h2 hc]
          simp only [Result.andThen_ok, run_sizeOf' hz, Sem.run_pure]
        have zero : ∀ (ad : Option Addr) (c : Nat), len ≤ c → (ad = none → c = 0) → q.toNat - l.toNat = 0 → o.wpIn (FW ro) n P a w next Q ∨ xv ≠ .slice ad len c := fun ad c hc hac hq0 => by
          by_cases hxe : xv = .slice ad len c
          · left
            refine op_value h hb hn hd (v' := .slice (if c = l.toNat then ad else ad.map (·.add (l.toNat * P.cellsOf e))) (q.toNat - l.toNat) (c - l.toNat)) ?_ (by
              rw [hq0]
              exact .sl0 fun h0 => by
                cases ad with
                | none => have := hac rfl; omega
                | some ad => split at h0 <;> cases h0) he2
            simp only [execOp, hop, Sem.run_bind, hax, hxe, Option.map_none, main _ _ hc]
            rfl
          · exact .inr hxe
        cases hx with
        | @sl0 _ _ c ad hadc =>
          rcases zero ad c (Nat.zero_le _) hadc (by simp at h2; omega) with h | h
          · exact h
          · exact absurd rfl h
        | @sl _ _ _ b sz c hR hle hlm =>
          by_cases hq0 : q.toNat - l.toNat = 0
          · rcases zero (some ⟨b, off * sz, none⟩) c hle (fun h => by cases h) hq0 with h | h
            · exact h
            · exact absurd rfl h
          · have hne : ¬ c = l.toNat := by omega
            have hrow := h.mem id
            rw [hm] at hrow
            have hsz : es ≠ [] → sz = P.cellsOf e := fun hne' => by
              obtain ⟨b', cells, ty, m1, _⟩ := hrow hne'
              rw [hR] at m1
              simpa using (by simpa using m1 : b = b' ∧ sz = P.cellsOf e).2
            by_cases hes : es = []
            · exfalso
              rw [hes] at hfit
              simp at hfit; omega
            · obtain rfl := hsz hes
              refine op_value h hb hn hd (v' := .slice (some ⟨b, (off + l.toNat) * P.cellsOf e, none⟩) (q.toNat - l.toNat) (c - l.toNat)) ?_ (.sl hR (by omega) (by omega)) he2
              simp only [execOp, hop, Sem.run_bind, hax, Option.map_none, main _ _ hle, hne, if_false, Option.map_some, add_plain', ← Nat.add_mul]
              rfl
      · rename_i t' id i j hu hv
        rw [hv] at hx
        split at he <;> first | (cases he; done) | skip
        rename_i m e hu'
        split at he <;> first | (cases he; done) | skip
        rename_i k l k' q hl hq
        obtain ⟨hc, he2⟩ := cond_some he
        simp only [Bool.and_eq_true, decide_eq_true_eq] at hc
        obtain ⟨⟨hc1, hz⟩, h0, hlm, h1, h2⟩ := hc
        have hc1 : m ≤ 9223372036854775807 := Nat.le_of_ble_eq_true hc1
        have hz : 0 < P.cellsOf e := by simpa [Nat.blt_eq] using hz
        have hlo := numOf_spec h hl
        have hhi := numOf_spec h hq
        cases hx with
        | @p _ _ _ b sz hR =>
          refine op_value h hb hn hd (v' := .slice (some ⟨b, i * sz + (j + l.toNat * P.cellsOf e), none⟩) (q.toNat - l.toNat) (m - l.toNat)) ?_ (.sa hR (by omega) (by omega)) he2
          have hne : ¬ m = l.toNat := by omega
          simp only [execOp, hop, Sem.run_bind, hax, Option.map_none, Instr.sliceAt, run_underlying' hu, Result.andThen_ok, Instr.slice, asAddr, Instr.sureAddr, Sem.run_pure, run_underlying' hu', run_bounds hlo hhi h0 h1 h2 (Nat.le_refl _), run_sizeOf' hz, hne, if_false, add_plain', Nat.add_assoc]
      · rename_i m e id i j hu hv
        rw [hv] at hx
        split at he <;> first | (cases he; done) | skip
        rename_i k l k' q hl hq
        obtain ⟨hc, he2⟩ := cond_some he
        simp only [Bool.and_eq_true, decide_eq_true_eq] at hc
        obtain ⟨⟨hc1, hz⟩, h0, hlm, h1, h2⟩ := hc
        have hc1 : m ≤ 9223372036854775807 := Nat.le_of_ble_eq_true hc1
        have hz : 0 < P.cellsOf e := by simpa [Nat.blt_eq] using hz
        have hlo := numOf_spec h hl
        have hhi := numOf_spec h hq
        cases hx with
        | @p _ _ _ b sz hR =>
          refine op_value h hb hn hd (v' := .slice (some ⟨b, i * sz + (j + l.toNat * P.cellsOf e), none⟩) (q.toNat - l.toNat) (m - l.toNat)) ?_ (.sa hR (by omega) (by omega)) he2
          have hne : ¬ m = l.toNat := by omega
          simp only [execOp, hop, Sem.run_bind, hax, Option.map_none, Instr.sliceAt, run_underlying' hu, Result.andThen_ok, Instr.sureAddr, Sem.run_pure, run_bounds hlo hhi h0 h1 h2 (Nat.le_refl _), run_sizeOf' hz, hne, if_false, add_plain', Nat.add_assoc]
      · rename_i s hu hv
        rw [hv] at hx
        split at he <;> first | (cases he; done) | skip
        rename_i k l k' q hl hq
        obtain ⟨hc, he2⟩ := cond_some he
        simp only [Bool.and_eq_true, decide_eq_true_eq] at hc
        obtain ⟨h0, h1, h2⟩ := hc
        obtain ⟨rfl, hsz⟩ := hx.str_inv
        have hlo := numOf_spec h hl
        have hhi := numOf_spec h hq
        refine op_value h hb hn hd (v' := .string (s.extract l.toNat q.toNat)) ?_ (.s (by simp; omega)) he2
        simp only [execOp, hop, Sem.run_bind, hax, Option.map_none, Instr.sliceAt, run_underlying' hu, Result.andThen_ok, Instr.slice, Option.isSome_none, Bool.false_eq_true, if_false, Sem.run_pure]
        rw [run_bounds hlo hhi h0 h1 h2 (Nat.le_refl _)]
        rfl
  case call c =>
    have hres : ∀ (f : Operand), c.callee = .value f → ∀ g cv, a.eval f = .func (.func g) #[] cv → (resolve a.eval c o.type).run P w = .ok { target := .fn (.func g) cv, args := #[] ++ c.args.map a.eval } w := by
      intro f hc g cv hf'
      simp [resolve, hc, Deferred.ofValue, hf']
    have hresb : ∀ b, c.callee = .builtin b → ∃ cs, (resolve a.eval c o.type).run P w = .ok { target := .builtin b c.argTypes o.type cs, args := c.args.map a.eval } w := by
      intro b hc
      simp only [resolve, hc, Sem.run_pure]
      exact ⟨_, rfl⟩
    have hargs := args_at h c.args.toList
    split at he
    · rename_i hc
      obtain ⟨csb, hrb⟩ := hresb _ hc
      have one : ∀ {v : AV}, c.args.toList.map (val st) = [v] → ∃ u, c.args.map a.eval = #[u] ∧ VR P D R w v u := by
        intro v hv
        have hl : c.args.toList.length = 1 := by have := congrArg List.length hv; simpa using this
        match hcl : c.args.toList, hl with
        | [x], _ =>
          refine ⟨a.eval x, ?_, ?_⟩
          · apply Array.ext'
            simp [hcl]
          · rw [hcl] at hv
            simp only [List.map_cons, List.map_nil, List.cons.injEq, and_true] at hv
            rw [← hv]
            exact h.val x
      have hty : ∀ {d : TypeDesc}, (c.argTypes[0]?).bind P.underlying = some d → ∃ t, c.argTypes[0]? = some t ∧ P.underlying t = some d := by
        intro d hd
        cases ht : c.argTypes[0]? with
        | none => rw [ht] at hd; cases hd
        | some t => rw [ht] at hd; exact ⟨t, rfl, hd⟩
      split at he <;> first | (cases he; done) | skip
      · rename_i e es e2 hv hd'
        obtain ⟨u, hu1, hu2⟩ := one hv
        obtain ⟨t, ht, hut⟩ := hty hd'
        have : ∃ ad cc, u = .slice ad es.length cc ∧ es.length ≤ 9223372036854775807 := by
          cases hu2 with
          | rs0 => exact ⟨_, _, rfl, by simp⟩
          | rs _ _ _ _ _ h5 _ _ =>
            cases h5 with
            | sl h1 _ _ => exact ⟨_, _, rfl, h1⟩
        obtain ⟨ad, cc, rfl, hle⟩ := this
        refine op_value h hb hn hd (v' := .int .i64 es.length) ?_ (.i (by simp [IntKind.min, IntKind.signed, IntKind.bits] <;> omega) (by simp [IntKind.max, IntKind.signed, IntKind.bits] <;> omega)) he
        simp only [execOp, hop, Sem.run_bind, hrb, Result.andThen_ok, invoke, builtin, hu1]
        simp [Builtin.len_, ht, run_underlying' hut, goInt]
      · rename_i e2 hv hd'
        obtain ⟨u, hu1, hu2⟩ := one hv
        obtain ⟨t, ht, hut⟩ := hty hd'
        cases hu2
        refine op_value h hb hn hd (v' := .int .i64 0) ?_ (.i (by simp [IntKind.min, IntKind.signed, IntKind.bits]) (by simp [IntKind.max, IntKind.signed, IntKind.bits])) he
        simp only [execOp, hop, Sem.run_bind, hrb, Result.andThen_ok, invoke, builtin, hu1]
        simp [Builtin.len_, ht, run_underlying' hut, goInt]
      · rename_i id off m e2 hv hd'
        obtain ⟨u, hu1, hu2⟩ := one hv
        obtain ⟨t, ht, hut⟩ := hty hd'
        cases hu2 with
        | sl0 =>
          refine op_value h hb hn hd (v' := .int .i64 0) ?_ (.i (by simp [IntKind.min, IntKind.signed, IntKind.bits]) (by simp [IntKind.max, IntKind.signed, IntKind.bits])) he
          simp only [execOp, hop, Sem.run_bind, hrb, Result.andThen_ok, invoke, builtin, hu1]
          simp [Builtin.len_, ht, run_underlying' hut, goInt]
        | @sl _ _ _ b sz cc hR hle hle2 =>
          refine op_value h hb hn hd (v' := .int .i64 m) ?_ (.i (by simp [IntKind.min, IntKind.signed, IntKind.bits] <;> omega) (by simp [IntKind.max, IntKind.signed, IntKind.bits] <;> omega)) he
          simp only [execOp, hop, Sem.run_bind, hrb, Result.andThen_ok, invoke, builtin, hu1]
          simp [Builtin.len_, ht, run_underlying' hut, goInt]
      · rename_i full e2 hv hd'
        obtain ⟨u, hu1, hu2⟩ := one hv
        obtain ⟨t, ht, hut⟩ := hty hd'
        cases hu2
        refine op_value h hb hn hd (v' := .int .i64 0) ?_ (.i (by simp [IntKind.min, IntKind.signed, IntKind.bits]) (by simp [IntKind.max, IntKind.signed, IntKind.bits])) he
        simp only [execOp, hop, Sem.run_bind, hrb, Result.andThen_ok, invoke, builtin, hu1]
        simp [Builtin.len_, ht, run_underlying' hut, goInt]
      · rename_i id e3 es e2 hv hd'
        obtain ⟨u, hu1, hu2⟩ := one hv
        obtain ⟨t, ht, hut⟩ := hty hd'
        have : ∃ ad cc, u = .slice ad es.length cc ∧ es.length ≤ 9223372036854775807 := by
          cases hu2 with
          | gv0 => exact ⟨_, _, rfl, by simp⟩
          | gv _ _ _ _ _ h5 _ _ _ => exact ⟨_, _, rfl, (WT_rs h5).1⟩
        obtain ⟨ad, cc, rfl, hle⟩ := this
        refine op_value h hb hn hd (v' := .int .i64 es.length) ?_ (.i (by simp [IntKind.min, IntKind.signed, IntKind.bits] <;> omega) (by simp [IntKind.max, IntKind.signed, IntKind.bits] <;> omega)) he
        simp only [execOp, hop, Sem.run_bind, hrb, Result.andThen_ok, invoke, builtin, hu1]
        simp [Builtin.len_, ht, run_underlying' hut, goInt]
      · rename_i id i j m e2 hv hd'
        obtain ⟨u, hu1, hu2⟩ := one hv
        obtain ⟨t, ht, hut⟩ := hty hd'
        cases hu2 with
        | @sa _ _ _ _ b sz cc hR hle hle2 =>
          refine op_value h hb hn hd (v' := .int .i64 m) ?_ (.i (by simp [IntKind.min, IntKind.signed, IntKind.bits] <;> omega) (by simp [IntKind.max, IntKind.signed, IntKind.bits] <;> omega)) he
          simp only [execOp, hop, Sem.run_bind, hrb, Result.andThen_ok, invoke, builtin, hu1]
          simp [Builtin.len_, ht, run_underlying' hut, goInt]
      · rename_i m e2 hv hd'
        obtain ⟨u, hu1, hu2⟩ := one hv
        obtain ⟨t, ht, hut⟩ := hty hd'
        cases hu2 with
        | @ln _ cc ad hle2 =>
          refine op_value h hb hn hd (v' := .int .i64 m) ?_ (.i (by simp [IntKind.min, IntKind.signed, IntKind.bits] <;> omega) (by simp [IntKind.max, IntKind.signed, IntKind.bits] <;> omega)) he
          simp only [execOp, hop, Sem.run_bind, hrb, Result.andThen_ok, invoke, builtin, hu1]
          simp [Builtin.len_, ht, run_underlying' hut, goInt]
      · rename_i s hv hd'
        obtain ⟨u, hu1, hu2⟩ := one hv
        obtain ⟨t, ht, hut⟩ := hty hd'
        obtain ⟨rfl, hsz⟩ := hu2.str_inv
        refine op_value h hb hn hd (v' := .int .i64 s.size) ?_ (.i (by simp [IntKind.min, IntKind.signed, IntKind.bits] <;> omega) (by simp [IntKind.max, IntKind.signed, IntKind.bits] <;> omega)) he
        simp only [execOp, hop, Sem.run_bind, hrb, Result.andThen_ok, invoke, builtin, hu1]
        simp [Builtin.len_, ht, run_underlying' hut, goInt]
    · rename_i hc
      exact minmax_sound (mx := true) h hb hn hd hop hc hresb he
    · rename_i hc
      exact minmax_sound (mx := false) h hb hn hd hop hc hresb he
    · rename_i hc
      obtain ⟨csb, hrb⟩ := hresb _ hc
      split at he <;> first | (cases he; done) | skip
      rename_i x y t t' hv hty
      have key : ∃ xv yv, c.args.map a.eval = #[xv, yv] ∧ c.argTypes = #[t, t'] ∧ VR P D R w x xv ∧ VR P D R w y yv := by
        have hl : c.args.toList.length = 2 := by have := congrArg List.length hv; simpa using this
        match hcl : c.args.toList, hl with
        | [p, q], _ =>
          rw [hcl] at hv
          simp only [List.map_cons, List.map_nil, List.cons.injEq, and_true] at hv
          refine ⟨a.eval p, a.eval q, ?_, ?_, hv.1 ▸ h.val p, hv.2 ▸ h.val q⟩
          · apply Array.ext'
            simp [hcl]
          · apply Array.ext'
            simpa using hty
      obtain ⟨xv, yv, ha1, ha2, hx, hy⟩ := key
      have hrun : ∀ v w', (Builtin.append_ #[t, t'] o.type #[xv, yv]).run P w = .ok v w' → (execOp a.eval o).run P w = .ok (.value v) w' := fun v w' hr => by
        simp only [execOp, hop, Sem.run_bind, hrb, Result.andThen_ok, invoke, builtin, ha1, ha2, hr, Sem.run_pure]
      split at he <;> first | (cases he; done) | skip
      · rename_i e hu
        exact grown_sound h hf hb hn hd hu (.inl rfl) hx (VR_fitA _ hy) hrun he
      · rename_i e hu
        exact grown_sound h hf hb hn hd hu (.inr ⟨rfl, rfl⟩) hx (VR_fitA _ hy) hrun he
    · rename_i hc
      obtain ⟨csb, hrb⟩ := hresb _ hc
      split at he <;> first | (cases he; done) | skip
      rename_i id off len y t t' hv hty
      have key : ∃ xv yv, c.args.map a.eval = #[xv, yv] ∧ c.argTypes = #[t, t'] ∧ VR P D R w (.sl id off len) xv ∧ VR P D R w y yv := by
        have hl : c.args.toList.length = 2 := by have := congrArg List.length hv; simpa using this
        match hcl : c.args.toList, hl with
        | [p, q], _ =>
          rw [hcl] at hv
          simp only [List.map_cons, List.map_nil, List.cons.injEq, and_true] at hv
          refine ⟨a.eval p, a.eval q, ?_, ?_, hv.1 ▸ h.val p, hv.2 ▸ h.val q⟩
          · apply Array.ext'
            simp [hcl]
          · apply Array.ext'
            simpa using hty
      obtain ⟨xv, yv, ha1, ha2, hx, hy⟩ := key
      have hrun : ∀ v w', (Builtin.copy_ #[t, t'] o.type #[xv, yv]).run P w = .ok v w' → (execOp a.eval o).run P w = .ok (.value v) w' := fun v w' hr => by
        simp only [execOp, hop, Sem.run_bind, hrb, Result.andThen_ok, invoke, builtin, ha1, ha2, hr, Sem.run_pure]
      exact copy_sound h hb hn hd hx hy hrun he
    · rename_i f hc
      have hf' := h.val f
      generalize haf : a.eval f = fv at hf'
      split at he <;> first | (cases he; done) | skip
      rename_i g caps hv
      rw [hv] at hf'
      obtain ⟨hfree, he⟩ := cond_some he
      split at he <;> first | (cases he; done) | skip
      rename_i pre v hS
      obtain ⟨hpre, he⟩ := cond_some he
      have hcon := hs _ _ _ _ _ _ hS hpre
      obtain ⟨fn, hfn, hname, hbody⟩ := hcon.fn
      cases hf' with
      | @fn _ _ cv c1 c2 =>
        have hbody' : fn.body.isNone = false := by cases hb' : fn.body <;> simp_all
        have hrun : (execOp a.eval o).run P w = .ok (.enter g (#[] ++ c.args.map a.eval ++ cv)) w := by
          simp only [execOp, hop, Sem.run_bind, hres f hc g cv haf, Result.andThen_ok, invoke, callFunc, run_program, hfn, hname, hbody', Bool.false_eq_true, if_false, Sem.run_pure]
        have hlen : (fitArgs P c.argTypes.toList (c.args.toList.map (val st)) ++ caps).length = c.args.size + caps.length := by simp [fitArgs_length]
        have hC := hcon.plain D w (#[] ++ c.args.map a.eval ++ cv) h.lt (by simp [fitArgs_length, c1]) (fun k hk => by
          have hv1 : ∀ k, k < (fitArgs P c.argTypes.toList (c.args.toList.map (val st))).length → VR P D R w ((fitArgs P c.argTypes.toList (c.args.toList.map (val st))).getD k .u) ((c.args.toList.map a.eval).getD k undef) := by
            intro k hk
            rw [fitArgs_length] at hk
            exact fitArgs_at _ _ _ hargs k hk
          have := app_at (v1 := c.args.toList.map a.eval) (v2 := cv.toList) (by simp [fitArgs_length]) hv1 (fun k hk => by
            have := c2 k hk
            simpa [Array.getD_eq_getD_getElem?, List.getD_eq_getElem?_getD] using this) k hk
          have e : (#[] ++ c.args.map a.eval ++ cv).getD k undef = (c.args.toList.map a.eval ++ cv.toList).getD k undef := by
            rw [Array.getD_eq_getD_getElem?, List.getD_eq_getElem?_getD, ← Array.getElem?_toList]
            simp
          rw [e]
          exact this.free_any (nb := 0) (R' := none2) (fun _ _ h => absurd h (by omega)) (freeL_at hfree hk))
        refine wpIn_enter hd hrun hC ?_
        rintro e w' ⟨v', rfl, hv', hbw⟩
        refine ⟨v', rfl, ?_⟩
        have hv'' : VR P D R w' v v' := hv'.mono (fun id x e => by cases e) (fun b hlt => .inr ⟨fun _ hd => hd, rfl⟩)
        exact hn D R ⟨v, none⟩ v' w' ((h.world hbw).put hb hv'') .refl he
    · cases he
end Go.Ev

set_option linter.unusedVariables false
set_option linter.unusedSimpArgs false
namespace Go.Ev
open Go Go.RowKit

variable {P : Program} {w0 : Base} {X D : Nat → Nat → Prop} {R : Nat → Option (Nat × Nat × Nat)} {st : St} {a : Act} {w : World}
variable {ro : Option Nat} {n : Nat} {o : Oper} {next : Act → World → Prop} {Q : Exit → Act → World → Prop} {ρ : Type} {r : ρ} {site : Nat} {S : Spec} {RO : Nat → Bool}

def Fresh (R : Nat → Option (Nat × Nat × Nat)) (nx : Nat) : Prop := ∀ id, nx ≤ id → R id = none

theorem getD_bool {a : Act} {t : Nat} {x : Bool} (h : a.tmps.getD t undef = .bool x) : a.tmps[t]? = some (.bool x) := by
  rw [Array.getD_eq_getD_getElem?] at h
  cases ht : a.tmps[t]? with
  | none => rw [ht] at h; simp [undef] at h
  | some v => rw [ht] at h; simp at h; rw [h]

theorem dst_ok {o : Oper} {nt : Nat} (h : (o.dst.map (Nat.blt · nt)).getD true = true) : ∀ x, o.dst = some x → x < nt := by
  intro x hx
  rw [hx] at h
  simpa [Nat.blt_eq] using h

theorem put_defers (a : Act) (d : Option Nat) (v : Value) : (a.put d v).defers = a.defers := by cases d <;> rfl

theorem nd_nodup : ∀ {I : List Nat}, nd I = true → I.Nodup
  | [], _ => List.nodup_nil
  | a :: I, h => by
    simp only [nd, Bool.and_eq_true, Bool.not_eq_true'] at h
    refine List.nodup_cons.2 ⟨fun hm => ?_, nd_nodup h.2⟩
    rw [has_iff.2 hm] at h
    cases h.1
theorem nodup_inj : ∀ {I : List Nat} {i j : Nat}, I.Nodup → (hi : i < I.length) → (hj : j < I.length) → I[i] = I[j] → i = j
  | [], i, j, _, hi, _, _ => by simp at hi
  | a :: I, 0, 0, _, _, _, _ => rfl
  | a :: I, 0, j + 1, h, hi, hj, e => by
    have := (List.nodup_cons.1 h).1
    exact absurd (by simp at e; rw [e]; exact List.getElem_mem _) this
  | a :: I, i + 1, 0, h, hi, hj, e => by
    have := (List.nodup_cons.1 h).1
    exact absurd (by simp at e; rw [← e]; exact List.getElem_mem _) this
  | a :: I, i + 1, j + 1, h, hi, hj, e => by
    have := nodup_inj (List.nodup_cons.1 h).2 (by simpa using hi) (by simpa using hj) (by simpa using e)
    omega
theorem call_args (h : SR P w0 X D R st a w) (c : Call) {caps : List AV} {cv : Array Value} (c1 : cv.size = caps.length) (c2 : ∀ k, k < caps.length → VR P D R w (caps.getD k .u) (cv.getD k undef)) :
    (#[] ++ c.args.map a.eval ++ cv).size = (fitArgs P c.argTypes.toList (c.args.toList.map (val st)) ++ caps).length ∧
    ∀ k, k < (fitArgs P c.argTypes.toList (c.args.toList.map (val st)) ++ caps).length → VR P D R w ((fitArgs P c.argTypes.toList (c.args.toList.map (val st)) ++ caps).getD k .u) ((#[] ++ c.args.map a.eval ++ cv).getD k undef) := by
  refine ⟨by simp [fitArgs_length, c1], fun k hk => ?_⟩
  have hargs := args_at h c.args.toList
  have hv1 : ∀ k, k < (fitArgs P c.argTypes.toList (c.args.toList.map (val st))).length → VR P D R w ((fitArgs P c.argTypes.toList (c.args.toList.map (val st))).getD k .u) ((c.args.toList.map a.eval).getD k undef) := by
    intro k hk
    rw [fitArgs_length] at hk
    exact fitArgs_at _ _ _ hargs k hk
  have := app_at (v1 := c.args.toList.map a.eval) (v2 := cv.toList) (by simp [fitArgs_length]) hv1 (fun k hk => by
    have := c2 k hk
    simpa [Array.getD_eq_getD_getElem?, List.getD_eq_getElem?_getD] using this) k hk
  have e : (#[] ++ c.args.map a.eval ++ cv).getD k undef = (c.args.toList.map a.eval ++ cv.toList).getD k undef := by
    rw [Array.getD_eq_getD_getElem?, List.getD_eq_getElem?_getD, ← Array.getElem?_toList]
    simp
  rw [e]
  exact this

def AfterB (P : Program) (w0 : Base) (X : Nat → Nat → Prop) (R : Nat → Option (Nat × Nat × Nat)) (st : St) (a : Act) (o : Oper) (site : Nat) {ρ : Type} (K : St → Option ρ) (r : ρ) (next : Act → World → Prop) : Prop :=
  ∀ D' R' st' v' w', SR P w0 X D' R' st' (a.put o.dst v') w' → Fr R R' site → st'.nx = st.nx → st'.nt = st.nt → K st' = some r → next (a.put o.dst v') w'

theorem callM_sound {K : St → Option ρ} (hs : SpecOK P S) (h : SR P w0 X D R st a w) (hb : ∀ x, o.dst = some x → x < st.nt) (hn : AfterB P w0 X R st a o site K r next) {c : Call} {f : Operand} (hop : o.op = .call c) (hc : c.callee = .value f)
    {g : FuncId} {caps : List AV} (hv : val st f = .fn g caps) (he : callM P S o st g (fitArgs P c.argTypes.toList (c.args.toList.map (val st)) ++ caps) K = some r) : o.wpIn (FW ro) n P a w next Q := by
  have hd : ∀ c, o.op ≠ .defer c := by intro c hc; rw [hop] at hc; cases hc
  unfold callM at he
  simp only at he
  generalize reach P st 4 (addAll (idsL P (fitArgs P c.argTypes.toList (c.args.toList.map (val st)) ++ caps)) []) = I at he
  obtain ⟨hg, he⟩ := cond_some he
  simp only [Bool.and_eq_true] at hg
  obtain ⟨hnd, hokA, hokR⟩ := hg
  have hnd := nd_nodup hnd
  have hokR : ∀ id, id ∈ I → okB P (has I) (gm st.m id) = true := fun id hid => List.all_eq_true.1 hokR id hid
  split at he <;> first | (cases he; done) | skip
  rename_i pre v rows hS
  obtain ⟨hg2, he3⟩ := cond_some he
  simp only [Bool.and_eq_true] at hg2
  obtain ⟨hpre, hl, hokv, hokr⟩ := hg2
  have hl : rows.length = I.length := Nat.eq_of_beq_eq_true hl
  have hcon := hs _ _ _ _ _ _ hS hpre
  obtain ⟨fn, hfn, hname, hbody⟩ := hcon.fn
  have hf' := h.val f
  rw [hv] at hf'
  generalize haf : a.eval f = fv at hf'
  cases hf' with
  | @fn _ _ cv c1 c2 =>
    have hbody' : fn.body.isNone = false := by cases hb' : fn.body <;> simp_all
    have hres : (resolve a.eval c o.type).run P w = .ok { target := .fn (.func g) cv, args := #[] ++ c.args.map a.eval } w := by
      simp [resolve, hc, Deferred.ofValue, haf]
    have hrun : (execOp a.eval o).run P w = .ok (.enter g (#[] ++ c.args.map a.eval ++ cv)) w := by
      simp only [execOp, hop, Sem.run_bind, hres, Result.andThen_ok, invoke, callFunc, run_program, hfn, hname, hbody', Bool.false_eq_true, if_false, Sem.run_pure]
    obtain ⟨a1, a2⟩ := call_args h c c1 c2
    generalize fitArgs P c.argTypes.toList (c.args.toList.map (val st)) ++ caps = args at *
    -- what is handed
    have hRp : ∀ id y, has I id = true → R id = some y → Rc R I (pos I id) = some y := fun id y hid e => (Rc_pos (has_iff.1 hid)).trans e
    have hrows : ∀ b, rowsOf (Rc R I) b → ∀ o, D b o := by
      rintro b ⟨j, s, e⟩ o
      unfold Rc at e
      split at e
      · rename_i id hj
        exact h.dom id b s o e ((okB_alive (hokR id (List.mem_of_getElem? hj))).2 s o)
      · cases e
    have hXD : ∀ b o, XR (fun b o => D b o ∧ ¬ rowsOf (Rc R I) b) (Rc R I) b o ↔ D b o := fun b o => by
      constructor
      · rintro (h | h)
        · exact h.1
        · exact hrows b h o
      · intro hd
        by_cases hr : rowsOf (Rc R I) b
        · exact .inr hr
        · exact .inl ⟨hd, hr⟩
    have toX : ∀ {R2 : Nat → Option (Nat × Nat × Nat)} {w2 : World} {x : AV} {v : Value}, VR P D R2 w2 x v → VR P (XR (fun b o => D b o ∧ ¬ rowsOf (Rc R I) b) (Rc R I)) R2 w2 x v := fun hv => hv.mono' (fun _ _ e => e) fun b o u hd hc => ⟨fun hx => hd ((hXD b o).1 hx), hc⟩
    have ofX : ∀ {R2 : Nat → Option (Nat × Nat × Nat)} {w2 : World} {x : AV} {v : Value}, VR P (XR (fun b o => D b o ∧ ¬ rowsOf (Rc R I) b) (Rc R I)) R2 w2 x v → VR P D R2 w2 x v := fun hv => hv.mono' (fun _ _ e => e) fun b o u hd hc => ⟨fun hx => hd ((hXD b o).2 hx), hc⟩
    have hC := hcon.calls (fun b o => D b o ∧ ¬ rowsOf (Rc R I) b) (Rc R I) w (#[] ++ c.args.map a.eval ++ cv) (fun b o hx => h.lt b o hx.1) (fun id hid => by
        rw [List.length_map] at hid
        simp [Rc, List.getElem?_eq_none hid]) (fun id b s e => by
        have hr : rowsOf (Rc R I) b := ⟨id, s, e⟩
        unfold Rc at e
        split at e
        · rename_i id' hj
          have hm := List.mem_of_getElem? hj
          have hs := h.nz id' b s e ((okB_alive (hokR id' hm)).2 s)
          exact ⟨(h.own id' b s e hs).2, hs, fun o hx => hx.2 hr⟩
        · cases e) (fun id id' b s s' e e' => by
        unfold Rc at e e'
        split at e <;> first | (cases e; done) | skip
        rename_i i hi
        split at e' <;> first | (cases e'; done) | skip
        rename_i i' hi'
        have hm := hokR i (List.mem_of_getElem? hi)
        have hm' := hokR i' (List.mem_of_getElem? hi')
        have := h.inj i i' b s s' e e' (h.nz i b s e ((okB_alive hm).2 s)) (h.nz i' b s' e' ((okB_alive hm').2 s')) (okB_alive hm).1 (okB_alive hm').1
        subst this
        have g1 := List.getElem?_eq_some_iff.1 hi
        have g2 := List.getElem?_eq_some_iff.1 hi'
        obtain ⟨g1, g3⟩ := g1
        obtain ⟨g2, g4⟩ := g2
        exact nodup_inj hnd g1 g2 (g3.trans g4.symm)) (fun j hj => by
        rw [List.length_map] at hj
        have e1 : (I.map fun id => renB P (pos I) (gm st.m id)).getD j .dead = renB P (pos I) (gm st.m I[j]) := by simp [List.getD_eq_getElem?_getD, hj]
        rw [e1]
        have hm : I[j] ∈ I := List.getElem_mem hj
        have := (h.mem I[j]).ren hRp (id' := j) (fun y e => by simpa [Rc, hj] using e) (hokR _ hm)
        exact this.mono rfl (fun _ _ _ _ => rfl) fun _ _ => toX) (by rw [renL_length]; exact a1) (fun k hk => by
        rw [renL_length] at hk
        rw [renL_at _ _ _ hk]
        exact toX ((a2 k hk).ren hRp (okL_at hokA hk)))
    refine wpIn_enter hd hrun hC ?_
    rintro e w' ⟨v', rfl, hv', hrow, hbw⟩
    refine ⟨v', rfl, ?_⟩
    obtain ⟨mono, hS'⟩ := h.called hnd hokR hl (fun j hj => by
      have hm : rows.getD j .dead ∈ rows := by simp [List.getD_eq_getElem?_getD, show j < rows.length by omega]
      exact List.all_eq_true.1 hokr _ hm) (fun j hj => (hrow j (by rw [List.length_map]; exact hj)).mono rfl (fun _ _ _ _ => rfl) fun _ _ => ofX) hbw
    have hvv : VR P D R w' (renV P (back I) v) v' := (ofX hv').ren (fun j y hj e => (Rc_back (by simpa [Nat.blt_eq] using hj)).trans e) hokv
    refine hn D R _ v' w' (hS'.put hb hvv) .refl ?_ ?_ he3
    · rw [put_nx]
    · rw [put_nt]

theorem growM_sound {K : St → Option ρ} (h : SR P w0 X D R st a w) (hf : R site = none) (hb : ∀ x, o.dst = some x → x < st.nt) (hn : AfterB P w0 X R st a o site K r next) {c : Call} (hop : o.op = .call c) (hc : c.callee = .builtin .append)
    {id : Nat} {e : TypeId} {es : List (List AV)} {y : AV} {t t' : TypeId} (hv : c.args.toList.map (val st) = [.gv id e es, y]) (hty : c.argTypes.toList = [t, t']) (he : growM P site o st t t' id e es (fitA P t' y) K = some r) : o.wpIn (FW ro) n P a w next Q := by
  have hd : ∀ c, o.op ≠ .defer c := by intro c hc; rw [hop] at hc; cases hc
  have key : ∃ xv yv, c.args.map a.eval = #[xv, yv] ∧ c.argTypes = #[t, t'] ∧ VR P D R w (.gv id e es) xv ∧ VR P D R w y yv := by
    have hl : c.args.toList.length = 2 := by have := congrArg List.length hv; simpa using this
    match hcl : c.args.toList, hl with
    | [p, q], _ =>
      rw [hcl] at hv
      simp only [List.map_cons, List.map_nil, List.cons.injEq, and_true] at hv
      refine ⟨a.eval p, a.eval q, ?_, ?_, hv.1 ▸ h.val p, hv.2 ▸ h.val q⟩
      · apply Array.ext'
        simp [hcl]
      · apply Array.ext'
        simpa using hty
  obtain ⟨xv, yv, ha1, ha2, hx, hy⟩ := key
  have hres : ∃ cs, (resolve a.eval c o.type).run P w = .ok { target := .builtin .append c.argTypes o.type cs, args := c.args.map a.eval } w := by
    simp only [resolve, hc, Sem.run_pure]
    exact ⟨_, rfl⟩
  obtain ⟨csb, hrb⟩ := hres
  have hrun : ∀ v w', (Builtin.append_ #[t, t'] o.type #[xv, yv]).run P w = .ok v w' → (execOp a.eval o).run P w = .ok (.value v) w' := fun v w' hr => by
    simp only [execOp, hop, Sem.run_bind, hrb, Result.andThen_ok, invoke, builtin, ha1, ha2, hr, Sem.run_pure]
  have hy2 := VR_fitA (P := P) t' hy
  unfold growM at he
  split at he <;> first | (cases he; done) | skip
  rename_i e2 e' ys e3 i hu hyy hm hin
  rw [hyy] at hy2
  obtain ⟨hg, he2⟩ := cond_some he
  simp only [Bool.and_eq_true] at hg
  obtain ⟨g1, g2, g3, g4, ⟨g5, g6, g7⟩, g8, g9⟩ := hg
  obtain rfl := Nat.eq_of_beq_eq_true g1
  obtain rfl := Nat.eq_of_beq_eq_true g2
  obtain rfl := Nat.eq_of_beq_eq_true g3
  obtain rfl := Nat.eq_of_beq_eq_true g4
  obtain ⟨hby, he3⟩ := cond_some he2
  obtain ⟨D', R', v', w', q1, q2, q3, q4⟩ := grow_own h hf (ty := o.type) hu hin g5 g8 g9 (Nat.le_of_ble_eq_true hby) g6 hm hx hy2 (Nat.le_of_ble_eq_true g7)
  refine wpIn_value hd (hrun _ _ q1) (hn D' R' _ v' w' (q2.put hb q3) q4 ?_ ?_ he3)
  · rw [put_nx]; rfl
  · rw [put_nt]; rfl

theorem evDo_sound {K : St → Option ρ} (hs : SpecOK P S) (h : SR P w0 X D R st a w) (hf : R site = none) (hb : ∀ x, o.dst = some x → x < st.nt) (he : evDo P S RO site o st K = some r) (hn : AfterB P w0 X R st a o site K r next) : o.wpIn (FW ro) n P a w next Q := by
  have plain : (evOp P S RO site o st fun e => K (st.app o.dst e)) = some r → o.wpIn (FW ro) n P a w next Q := fun he =>
    evOp_sound hs h hf hb he fun D' R' e v' w' hS hR hK => hn D' R' _ v' w' hS hR (app_nx _ _) (app_nt _ _) hK
  unfold evDo at he
  cases hk : kd P o st with
  | plain => rw [hk] at he; exact plain he
  | bad => rw [hk] at he; cases he
  | call g args =>
    rw [hk] at he
    unfold kd at hk
    split at hk <;> first | (cases hk; done) | skip
    rename_i c hop
    unfold kdC at hk
    split at hk <;> first | (cases hk; done) | skip
    · rename_i f hc
      split at hk <;> first | (cases hk; done) | skip
      rename_i g' caps hv
      cases hfr : freeL P 0 (fitArgs P c.argTypes.toList (c.args.toList.map (val st)) ++ caps) with
      | true => rw [hfr] at hk; cases hk
      | false =>
        rw [hfr] at hk
        simp only [cond_false, Kd.call.injEq] at hk
        obtain ⟨rfl, rfl⟩ := hk
        exact callM_sound hs h hb hn hop hc hv he
    · split at hk <;> cases hk
  | grow t t' id e es y =>
    rw [hk] at he
    unfold kd at hk
    split at hk <;> first | (cases hk; done) | skip
    rename_i c hop
    unfold kdC at hk
    split at hk <;> first | (cases hk; done) | skip
    · split at hk <;> first | (cases hk; done) | skip
      rename_i g' caps hv
      cases hfr : freeL P 0 (fitArgs P c.argTypes.toList (c.args.toList.map (val st)) ++ caps) <;> rw [hfr] at hk <;> cases hk
    · rename_i hc
      split at hk <;> first | (cases hk; done) | skip
      rename_i id' e' es' y' t1 t2 hv hty
      simp only [Kd.grow.injEq] at hk
      obtain ⟨rfl, rfl, rfl, rfl, rfl, rfl⟩ := hk
      exact growM_sound h hf hb hn hop hc hv hty he

theorem evOpsB_sound (hs : SpecOK P S) {ops : Array Oper} {base : Nat} : ∀ (l : List Oper) (j : Nat) {st : St} {a : Act} {w : World} {D : Nat → Nat → Prop} {R : Nat → Option (Nat × Nat × Nat)} {K : St → Option ρ} {r : ρ}
    (hl : ∀ i, l[i]? = ops[j + i]?) (h : SR P w0 X D R st a w) (hf : Fresh R (base + j)) (he : evOpsB P S RO ops base l j st K = some r)
    (hn : ∀ D' R' st' a' w', SR P w0 X D' R' st' a' w' → Fresh R' (base + j + l.length) → (∀ id, id < base + j → R' id = R id) → a'.defers = a.defers → st'.nx = st.nx → st'.nt = st.nt → K st' = some r → Q .normal a' w'),
    wpOpsIn (FW ro) n P ops Q (List.range' j l.length) a w
  | [], j, st, a, w, D, R, K, r, hl, h, hf, he, hn => hn D R st a w h hf (fun _ _ => rfl) rfl rfl rfl he
  | o :: l, j, st, a, w, D, R, K, r, hl, h, hf, he, hn => by
    have ho : ops[j]? = some o := by have := hl 0; simpa using this.symm
    have hl' : ∀ i, l[i]? = ops[j + 1 + i]? := fun i => by
      have := hl (i + 1)
      simp only [List.getElem?_cons_succ] at this
      rw [this]; congr 1; omega
    simp only [evOpsB] at he
    obtain ⟨hdst, he⟩ := cond_some he
    have hb := dst_ok hdst
    simp only [List.length_cons, List.range'_succ, wpOpsIn, ho]
    -- performing, passing over
    have perform : ∀ {st0 : St}, SR P w0 X D R st0 a w → st0.nx = st.nx → st0.nt = st.nt → evDo P S RO (base + j) o st0 (fun s => evOpsB P S RO ops base l (j + 1) s K) = some r →
        o.wpIn (FW ro) n P a w (wpOpsIn (FW ro) n P ops Q (List.range' (j + 1) l.length)) Q := by
      intro st0 h0 hx ht he
      refine evDo_sound hs h0 (hf _ (Nat.le_refl _)) (by rw [ht]; exact hb) he fun D' R' st1 v' w' hS hR hx1 ht1 hK => ?_
      refine evOpsB_sound hs l (j + 1) hl' hS (fun id hid => by rw [hR.R id (by omega)]; exact hf id (by omega)) hK fun D'' R'' st'' a'' w'' hS' hf' hRR hdd hx' ht' hK' => ?_
      exact hn D'' R'' st'' a'' w'' hS' (by simpa [Nat.add_assoc, Nat.add_comm 1] using hf') (fun id hid => (hRR id (by omega)).trans (hR.R id (by omega))) (hdd.trans (put_defers _ _ _)) (hx'.trans (hx1.trans hx)) (ht'.trans (ht1.trans ht)) hK'
    have pass : ∀ {st0 : St}, SR P w0 X D R st0 a w → st0.nx = st.nx → st0.nt = st.nt → evOpsB P S RO ops base l (j + 1) (st0.put o.dst (.tup [])) K = some r →
        (∀ f, o.about P w a.eval = some f → (FW ro).fn f) ∧ wpOpsIn (FW ro) n P ops Q (List.range' (j + 1) l.length) (a.put o.dst undef) w := by
      intro st0 h0 hx ht he
      refine ⟨fun _ _ => trivial, evOpsB_sound hs l (j + 1) hl' (h0.put (by rw [ht]; exact hb) VR_undef) (fun id hid => hf id (by omega)) he fun D'' R'' st'' a'' w'' hS' hf' hRR hdd hx' ht' hK' => ?_⟩
      exact hn D'' R'' st'' a'' w'' hS' (by simpa [Nat.add_assoc, Nat.add_comm 1] using hf') (fun id hid => hRR id (by omega)) (hdd.trans (put_defers _ _ _)) (hx'.trans ((put_nx _ _).trans hx)) (ht'.trans ((put_nt _ _).trans ht)) hK'
    cases hg : o.guard with
    | none =>
      rw [hg] at he
      have hw : Region.wanted o (yielded ops a.tmps) = true := by simp [Region.wanted, hg]
      rw [if_pos hw]
      exact perform h rfl rfl he
    | some gw =>
      obtain ⟨g, want⟩ := gw
      rw [hg] at he
      simp only at he
      cases htg : (ops[g]?).bind (·.dst) with
      | none => rw [htg] at he; cases he
      | some tg =>
        rw [htg] at he
        simp only at he
        have hv := h.tmp tg
        split at he
        · rename_i x hx
          rw [hx] at hv
          have hb1 := hv.bool_inv
          have hb2 := getD_bool hb1
          have hy : yielded ops a.tmps g = some x := by simp [yielded, htg, hb2]
          have hwant : Region.wanted o (yielded ops a.tmps) = (x == want) := by simp [Region.wanted, hg, hy]
          cases x
          · simp only [cond_false] at he
            have hk := h.know (d := tg) (v := .b false) (by rw [hb1]; exact .b)
            cases want
            · rw [if_pos (by rw [hwant]; rfl)]
              exact perform hk rfl rfl he
            · rw [if_neg (by rw [hwant]; decide)]
              exact pass hk rfl rfl he
          · simp only [cond_true] at he
            have hk := h.know (d := tg) (v := .b true) (by rw [hb1]; exact .b)
            cases want
            · rw [if_neg (by rw [hwant]; decide)]
              exact pass hk rfl rfl he
            · rw [if_pos (by rw [hwant]; rfl)]
              exact perform hk rfl rfl he
        · rename_i hx
          rw [hx] at hv
          have hy : yielded ops a.tmps g = none := by
            generalize hq : a.tmps.getD tg Go.undef = q at hv
            cases hv with
            | tup h1 _ =>
              simp only [yielded, htg, Option.bind_some]
              rw [Array.getD_eq_getD_getElem?] at hq
              cases ht : a.tmps[tg]? with
              | none => rfl
              | some z => rw [ht] at hq; simp at hq; subst hq; rfl
          have hwant : Region.wanted o (yielded ops a.tmps) = false := by simp [Region.wanted, hg, hy]
          rw [if_neg (by rw [hwant]; decide)]
          exact pass h rfl rfl he
        · cases he
end Go.Ev

set_option linter.unusedVariables false
set_option linter.unusedSimpArgs false
namespace Go.Ev
open Go Go.RowKit

variable {P : Program} {w0 : Base} {X D : Nat → Nat → Prop} {R : Nat → Option (Nat × Nat × Nat)} {st : St} {a : Act} {w : World}
variable {ro : Option Nat} {n : Nat} {Q : Exit → Act → World → Prop} {ρ : Type} {S : Spec} {RO : Nat → Bool}

def lastOf {β : Type} (f : Nat → Option β) : Nat → Option β
  | 0 => none
  | n + 1 => match f n with
    | some b => some b
    | none => lastOf f n
theorem lastOf_congr {β : Type} {f g : Nat → Option β} : ∀ {n : Nat}, (∀ i, i < n → f i = g i) → lastOf f n = lastOf g n
  | 0, _ => rfl
  | n + 1, h => by simp only [lastOf]; rw [h n (by omega), lastOf_congr fun i hi => h i (by omega)]
theorem lastOf_upto {β : Type} {f : Nat → Option β} {j : Nat} : ∀ {n : Nat}, j ≤ n → (∀ i, j ≤ i → i < n → f i = none) → lastOf f n = lastOf f j
  | 0, hj, _ => by have : j = 0 := by omega
                   rw [this]
  | n + 1, hj, h => by
    by_cases e : j = n + 1
    · rw [e]
    · simp only [lastOf]
      rw [h n (by omega) (by omega)]
      exact lastOf_upto (by omega) fun i h1 h2 => h i h1 (by omega)
theorem lastOf_at {β : Type} {f : Nat → Option β} {j n : Nat} {b : β} (hj : j < n) (hb : f j = some b) (h : ∀ i, j < i → i < n → f i = none) : lastOf f n = some b := by
  rw [lastOf_upto (j := j + 1) (by omega) fun i h1 h2 => h i (by omega) h2]
  simp [lastOf, hb]

structure Eqv (s s' : St) : Prop where
  t : ∀ x, gt s.t x = gt s'.t x
  m : ∀ id, gm s.m id = gm s'.m id
  nx : s.nx = s'.nx
  nt : s.nt = s'.nt
theorem Eqv.refl (s : St) : Eqv s s := ⟨fun _ => rfl, fun _ => rfl, rfl, rfl⟩
theorem Eqv.trans {s s' s'' : St} (h : Eqv s s') (h' : Eqv s' s'') : Eqv s s'' := ⟨fun x => (h.t x).trans (h'.t x), fun x => (h.m x).trans (h'.m x), h.nx.trans h'.nx, h.nt.trans h'.nt⟩
theorem Eqv.symm {s s' : St} (h : Eqv s s') : Eqv s' s := ⟨fun x => (h.t x).symm, fun x => (h.m x).symm, h.nx.symm, h.nt.symm⟩
theorem Eqv.sr {s s' : St} (h : Eqv s s') (hs : SR P w0 X D R s a w) : SR P w0 X D R s' a w := by
  refine { hs with tmp := ?_, nt := ?_, mem := ?_, fx := ?_, dom := ?_, inj := ?_, nz := ?_, df := hs.df }
  · intro t; rw [← h.t]; exact hs.tmp t
  · rw [← h.nt]; exact hs.nt
  · intro id; rw [← h.m]; exact hs.mem id
  · intro id b s et o e h1 hm; rw [← h.m] at hm; exact hs.fx id b s et o e h1 hm
  · intro id b s o e ho; rw [← h.m] at ho; exact hs.dom id b s o e ho
  · intro id id' b s s' e e' h1 h2 a1 a2; rw [← h.m] at a1 a2; exact hs.inj id id' b s s' e e' h1 h2 a1 a2
  · intro id b s e ho; exact hs.nz id b s e fun o => by rw [h.m]; exact ho o
theorem Eqv.val {s s' : St} (h : Eqv s s') (x : Operand) : val s x = val s' x := by cases x <;> simp [Ev.val, h.t]
theorem app_t (s : St) (d : Option Nat) (e : Eff) (x : Nat) : gt (s.app d e).t x = if d = some x then e.v else gt s.t x := by
  unfold St.app
  cases d with
  | none => cases hm : e.m <;> simp [St.put, St.mem]
  | some d =>
    cases hm : e.m <;> simp only [St.put, St.mem, gt_cons, Option.some.injEq, eq_comm]
theorem app_m (s : St) (d : Option Nat) (e : Eff) (id : Nat) : gm (s.app d e).m id = match e.m with | some (i, b) => if i = id then b else gm s.m id | none => gm s.m id := by
  unfold St.app
  cases hm : e.m with
  | none => cases d <;> simp [St.put]
  | some p => cases d <;> simp only [St.put, St.mem, gm_cons, eq_comm]
theorem Eqv.app {s s' : St} (h : Eqv s s') (d : Option Nat) (e : Eff) : Eqv (s.app d e) (s'.app d e) :=
  ⟨fun x => by rw [app_t, app_t, h.t], fun x => by rw [app_m, app_m, h.m], by rw [app_nx, app_nx]; exact h.nx, by rw [app_nt, app_nt]; exact h.nt⟩
theorem put_know {s : St} {t : Nat} {v : AV} (h : gt s.t t = v) : Eqv (s.put (some t) v) s :=
  ⟨fun x => by simp only [St.put, gt_cons]; split <;> simp_all, fun _ => rfl, rfl, rfl⟩

theorem cond_bind {α ρ : Type} (c : Bool) (x y : Option α) (K : α → Option ρ) : (cond c x y).bind K = cond c (x.bind K) (y.bind K) := by cases c <;> rfl
theorem binI_bind (op : BinOp) (k : IntKind) (x y : Int) (K : AV → Option ρ) : binI op k x y K = (binI op k x y some).bind K := by
  cases op <;> simp [binI, cond_bind]
theorem binH_bind (op : BinOp) (k : IntKind) (x y : Int) (K : AV → Option ρ) : binH op k x y K = (binH op k x y some).bind K := by
  cases op <;> simp [binH, cond_bind]
theorem binS_bind (op : BinOp) (x y : ByteArray) (K : AV → Option ρ) : binS op x y K = (binS op x y some).bind K := by
  cases op <;> simp [binS, cond_bind]
theorem binN_bind (op : BinOp) (t : TypeId) (b : Bool) (K : AV → Option ρ) : binN P op t b K = (binN P op t b some).bind K := by
  unfold binN
  split <;> rfl
theorem bin_bind (op : BinOp) (t : TypeId) (x y : AV) (K : AV → Option ρ) : bin P op t x y K = (bin P op t x y some).bind K := by
  unfold bin
  split
  · rw [cond_bind, cond_bind, ← binI_bind, ← binH_bind]; rfl
  · exact binS_bind ..
  · split <;> simp
  · split <;> simp [cond_bind]
  · exact binN_bind ..
  · exact binN_bind ..
  · exact binN_bind ..
  · rfl
theorem bin_bind' {α : Type} (op : BinOp) (t : TypeId) (x y : AV) (f : AV → α) (K : α → Option ρ) : bin P op t x y (fun v => K (f v)) = (bin P op t x y fun v => some (f v)).bind K := by
  rw [bin_bind, bin_bind (K := fun v => some (f v)), Option.bind_assoc]; rfl
theorem look_bind' {α : Type} (st : St) (t : TypeId) (x : AV) (f : AV → α) (K : α → Option ρ) : look P st t x (fun v => K (f v)) = (look P st t x fun v => some (f v)).bind K := by
  unfold look
  split
  · simp [cond_bind]
  · split <;> simp [cond_bind]
  · rfl
theorem fresh_bind (site : Nat) (dst : Option Nat) (t : TypeId) (cs : List AV) (K : Eff → Option ρ) : fresh P RO site dst t cs K = (fresh P RO site dst t cs some).bind K := by
  simp [fresh, cond_bind]
theorem freshL_bind (site : Nat) (dst : Option Nat) (t : TypeId) (cs : List AV) (K : Eff → Option ρ) : freshL P RO site dst t cs K = (freshL P RO site dst t cs some).bind K := by
  simp [freshL, cond_bind]
theorem freshRow_bind (site : Nat) (dst : Option Nat) (t : TypeId) (es : List (List AV)) (K : Eff → Option ρ) : freshRow P RO site dst t es K = (freshRow P RO site dst t es some).bind K := by
  simp [freshRow, cond_bind]
theorem grown_bind (site : Nat) (own : Bool) (e t t' : TypeId) (x y : AV) (K : Eff → Option ρ) : grown P site own e t t' x y K = (grown P site own e t t' x y some).bind K := by
  unfold grown
  split
  · rw [cond_bind]
    congr 1
    split <;> simp [cond_bind]
  · rfl
theorem grown_eff {site : Nat} {own : Bool} {e t t' : TypeId} {x y : AV} {ef : Eff} (h : grown P site own e t t' x y some = some ef) : ∃ b, ef.m = some (site, b) := by
  unfold grown at h
  split at h
  · obtain ⟨_, h⟩ := cond_some h
    split at h
    · obtain ⟨_, h⟩ := cond_some h
      obtain ⟨_, h⟩ := cond_some h
      cases h
      cases own <;> exact ⟨_, rfl⟩
    · cases h
  · cases h
theorem grown_eff' {site : Nat} {own : Bool} {e t t' : TypeId} {x y : AV} {ef : Eff} {st : St} {o : Oper} (hs : isStore o = false) (h : grown P site own e t t' x y some = some ef) :
    ef.m = none ∨ (isStore o = false ∧ ∃ b, ef.m = some (site, b)) ∨ (isStore o = true ∧ ∃ id b, acc o st = some id ∧ ef.m = some (id, b)) := .inr (.inl ⟨hs, grown_eff h⟩)
theorem copyV_bind (st : St) (t : TypeId) (id off len : Nat) (y : AV) (K : Eff → Option ρ) : copyV P st t id off len y K = (copyV P st t id off len y some).bind K := by
  unfold copyV
  split
  · rw [srcK_eq, srcK_eq]
    split
    · simp [cond_bind]
    · rfl
  · rfl
theorem evOp_bind (site : Nat) (o : Oper) (st : St) (K : Eff → Option ρ) : evOp P S RO site o st K = (evOp P S RO site o st some).bind K := by
  unfold evOp
  cases hop : o.op <;> simp only [bin_bind' (f := fun v => (⟨v, none⟩ : Eff)) (K := K), look_bind' (f := fun v => (⟨v, none⟩ : Eff)) (K := K), fresh_bind (K := K), freshL_bind (K := K), freshRow_bind (K := K), grown_bind (K := K), copyV_bind (K := K)] <;> (repeat' split) <;> (first | rfl | (simp [cond_bind]; done) | skip)

theorem bin_none {op : BinOp} {t : TypeId} {x y : AV} {e : Eff} (h : bin P op t x y (fun v => some ⟨v, none⟩) = some e) : e.m = none := by
  rw [bin_bind] at h
  obtain ⟨v, _, hv⟩ := Option.bind_eq_some_iff.1 h
  cases hv; rfl
theorem look_none {st : St} {t : TypeId} {x : AV} {e : Eff} (h : look P st t x (fun v => some ⟨v, none⟩) = some e) : e.m = none := by
  have := look_bind' (P := P) (f := id) (α := AV) (K := fun v => some (⟨v, none⟩ : Eff)) st t x
  simp only [id] at this
  rw [this] at h
  obtain ⟨v, _, hv⟩ := Option.bind_eq_some_iff.1 h
  cases hv; rfl
theorem fresh_eff {site : Nat} {dst : Option Nat} {t : TypeId} {cs : List AV} {e : Eff} (h : fresh P RO site dst t cs some = some e) : e.m = none ∨ ∃ b, e.m = some (site, b) := by
  unfold fresh at h
  obtain ⟨_, h⟩ := cond_some h
  cases hc : (dst.map RO).getD false <;> rw [hc] at h <;> cases h
  · exact .inr ⟨_, rfl⟩
  · exact .inl rfl
theorem cond2_none {c : Bool} {x y : AV} {e : Eff} (h : (bif c then some (⟨x, none⟩ : Eff) else some ⟨y, none⟩) = some e) : e.m = none := by
  cases c <;> (cases h; rfl)
theorem cond1_none {c : Bool} {x : AV} {e : Eff} (h : (bif c then none else some (⟨x, none⟩ : Eff)) = some e) : e.m = none := by
  cases c <;> (cases h; try rfl)
theorem cond_either {α : Type} {c : Bool} {a b : Option α} {e : α} (h : cond c a b = some e) : a = some e ∨ b = some e := by
  cases c
  · exact .inr h
  · exact .inl h
theorem freshL_eff' {site : Nat} {dst : Option Nat} {t : TypeId} {cs : List AV} {e : Eff} {o : Oper} (hs : isStore o = false) (h : freshL P RO site dst t cs some = some e) :
    e.m = none ∨ (isStore o = false ∧ ∃ b, e.m = some (site, b)) ∨ (isStore o = true ∧ ∃ id b, acc o st = some id ∧ e.m = some (id, b)) := by
  unfold freshL at h
  obtain ⟨_, h⟩ := cond_some h
  cases hro : (dst.map RO).getD false with
  | true => rw [hro] at h; cases h
  | false =>
    rw [hro] at h
    cases h
    exact .inr (.inl ⟨hs, _, rfl⟩)
theorem freshRow_eff' {site : Nat} {dst : Option Nat} {t : TypeId} {es : List (List AV)} {e : Eff} {o : Oper} (hs : isStore o = false) (h : freshRow P RO site dst t es some = some e) :
    e.m = none ∨ (isStore o = false ∧ ∃ b, e.m = some (site, b)) ∨ (isStore o = true ∧ ∃ id b, acc o st = some id ∧ e.m = some (id, b)) := by
  unfold freshRow at h
  obtain ⟨_, h⟩ := cond_some h
  cases hm : es.isEmpty <;> rw [hm] at h
  · simp only [cond_false] at h
    cases hc : (dst.map RO).getD false <;> rw [hc] at h <;> cases h
    · exact .inr (.inl ⟨hs, _, rfl⟩)
    · exact .inl rfl
  · cases h; exact .inl rfl
theorem fresh_eff' {site : Nat} {dst : Option Nat} {t : TypeId} {cs : List AV} {e : Eff} {o : Oper} (hs : isStore o = false) (h : fresh P RO site dst t cs some = some e) :
    e.m = none ∨ (isStore o = false ∧ ∃ b, e.m = some (site, b)) ∨ (isStore o = true ∧ ∃ id b, acc o st = some id ∧ e.m = some (id, b)) :=
  (fresh_eff h).imp_right fun ⟨b, h⟩ => .inl ⟨hs, b, h⟩
theorem copyV_eff {st : St} {t : TypeId} {id off len : Nat} {y : AV} {e : Eff} (h : copyV P st t id off len y some = some e) : ∃ b, e.m = some (id, b) := by
  unfold copyV at h
  split at h <;> first | (cases h; done) | skip
  rw [srcK_eq] at h
  split at h <;> first | (cases h; done) | skip
  obtain ⟨_, h⟩ := cond_some h
  cases h
  exact ⟨_, rfl⟩
theorem copyV_eff' {site : Nat} {st : St} {t : TypeId} {id off len : Nat} {y : AV} {e : Eff} {o : Oper} (hs : isStore o = true) (ha : acc o st = some id) (h : copyV P st t id off len y some = some e) :
    e.m = none ∨ (isStore o = false ∧ ∃ b, e.m = some (site, b)) ∨ (isStore o = true ∧ ∃ id b, acc o st = some id ∧ e.m = some (id, b)) := by
  obtain ⟨b, hb⟩ := copyV_eff h
  exact .inr (.inr ⟨hs, id, b, ha, hb⟩)
theorem copyV_congr {st st' : St} {t : TypeId} {id off len : Nat} {y : AV} {K : Eff → Option ρ} (h : gm st.m id = gm st'.m id) : copyV P st t id off len y K = copyV P st' t id off len y K := by
  unfold copyV
  rw [h]
theorem evOp_eff {site : Nat} {o : Oper} {st : St} {e : Eff} (h : evOp P S RO site o st some = some e) :
    e.m = none ∨ (isStore o = false ∧ ∃ b, e.m = some (site, b)) ∨ (isStore o = true ∧ ∃ id b, acc o st = some id ∧ e.m = some (id, b)) := by
  unfold evOp at h
  cases hop : o.op
  case makeSlice t l c =>
    simp only [hop] at h
    split at h <;> first | (cases h; done) | skip
    split at h <;> first | (cases h; done) | skip
    obtain ⟨_, h⟩ := cond_some h
    cases h
    exact .inr (.inl ⟨by simp [isStore, hop], _, rfl⟩)
  case makeMap t rs =>
    simp only [hop] at h
    cases rs with
    | some _ => cases h
    | none =>
      simp only at h
      split at h <;> first | (cases h; done) | skip
      obtain ⟨_, h⟩ := cond_some h
      cases h
      exact .inr (.inl ⟨by simp [isStore, hop], _, rfl⟩)
  case lookup t x ix ok =>
    simp only [hop] at h
    split at h <;> first | (cases h; done) | skip
    split at h <;> first | (cases h; done) | skip
    split at h <;> first | (cases h; done) | skip
    obtain ⟨_, h⟩ := cond_some h
    cases ok <;> (cases h; exact .inl rfl)
  case mapUpdate t x k v =>
    simp only [hop] at h
    split at h <;> first | (cases h; done) | skip
    rename_i hv
    split at h <;> first | (cases h; done) | skip
    split at h <;> first | (cases h; done) | skip
    obtain ⟨_, h⟩ := cond_some h
    cases h
    exact .inr (.inr ⟨by simp [isStore, hop], _, _, by simp [acc, hop, hv], rfl⟩)
  case mapEntry t x k =>
    simp only [hop] at h
    split at h <;> first | (cases h; done) | skip
    rename_i hv
    split at h <;> first | (cases h; done) | skip
    split at h <;> first | (cases h; done) | skip
    obtain ⟨_, h⟩ := cond_some h
    cases h
    exact .inr (.inr ⟨by simp [isStore, hop], _, _, by simp [acc, hop, hv], rfl⟩)
  case entryStore t x s v =>
    simp only [hop] at h
    split at h <;> first | (cases h; done) | skip
    rename_i hv _
    split at h <;> first | (cases h; done) | skip
    split at h <;> first | (cases h; done) | skip
    obtain ⟨_, h⟩ := cond_some h
    cases h
    exact .inr (.inr ⟨by simp [isStore, hop], _, _, by simp [acc, hop, hv], rfl⟩)
  case range t x =>
    simp only [hop] at h
    split at h <;> first | (cases h; done) | skip
    cases h
    exact .inr (.inl ⟨by simp [isStore, hop], _, rfl⟩)
  case next x b =>
    simp only [hop] at h
    cases b with
    | false => cases h
    | true =>
      simp only at h
      split at h <;> first | (cases h; done) | skip
      rename_i id hv
      split at h <;> first | (cases h; done) | skip
      rename_i s p hm
      cases hb : Nat.blt p s.size <;> rw [hb] at h <;> cases h
      · exact .inr (.inr ⟨by simp [isStore, hop], id, _, by simp [acc, hop, hv], rfl⟩)
      · exact .inr (.inr ⟨by simp [isStore, hop], id, _, by simp [acc, hop, hv], rfl⟩)
  all_goals simp only [hop] at h <;> (try (cases h; done)) <;> (repeat' split at h) <;>
    (first
      | (cases h; done) | (exfalso; injections; done) | (cases h; exact .inl rfl) | (exact .inl (bin_none h)) | (exact .inl (look_none h)) | (exact .inl (cond2_none h)) | (exact .inl (cond1_none h)) | (obtain ⟨_, h⟩ := cond_some h; cases h; exact .inl rfl)
      | (obtain ⟨_, h⟩ := cond_some h; obtain ⟨_, h⟩ := cond_some h; cases h; exact .inl rfl)
      | (obtain ⟨_, h⟩ := cond_some h; obtain ⟨_, h⟩ := cond_some h; cases h; exact .inr (.inl ⟨by simp [isStore, hop], _, rfl⟩))
      | (obtain ⟨_, h⟩ := cond_some h; cases h; done)
      | (exact fresh_eff' (by simp [isStore, hop]) h)
      | (rcases cond_either h with h | h <;> first | (cases h; done) | exact fresh_eff' (by simp [isStore, hop]) h | exact freshL_eff' (by simp [isStore, hop]) h)
      | (exact grown_eff' (by simp [isStore, hop, isCopy, *]) h)
      | (exact copyV_eff' (by simp [isStore, hop, isCopy, *]) (by simp [acc, hop, isCopy, *]) h)
      | (obtain ⟨_, h⟩ := cond_some h; (repeat' split at h) <;> first | (cases h; done) | exact freshRow_eff' (by simp [isStore, hop]) h)
      | (obtain ⟨_, h⟩ := cond_some h; cases h; exact .inr (.inr ⟨by simp [isStore, hop], _, _, by simp [acc, hop, *], rfl⟩))
      | (rename_i heq _ _ _ _ _; cases heq; done) | skip)
theorem look_congr {st st' : St} {t : TypeId} {x : AV} {K : AV → Option ρ} (h : ∀ id i j, x = .p id i j → gm st.m id = gm st'.m id) : look P st t x K = look P st' t x K := by
  unfold look
  cases x <;> try rfl
  · rename_i id i j
    simp only [h id i j rfl]
set_option maxHeartbeats 1000000 in
theorem evOp_congr {site : Nat} {o : Oper} {st st' : St} {K : Eff → Option ρ} (hv : ∀ x, x ∈ o.op.operands → val st x = val st' x) (ha : ∀ id, acc o st = some id → gm st.m id = gm st'.m id) :
    evOp P S RO site o st K = evOp P S RO site o st' K := by
  have hargs : ∀ c : Call, o.op = .call c → c.args.toList.map (val st) = c.args.toList.map (val st') := fun c hc =>
    List.map_congr_left fun x hx => hv x (by rw [hc]; simp only [Op.operands, Call.operands]; exact Array.mem_append.2 (.inr (by simpa using hx)))
  unfold evOp
  cases hop : o.op <;> simp only [hop, Op.operands] at hv <;> simp only <;> (first | rfl | (simp [hv]; done) | skip)
  case build t parts =>
    have : List.map (fun p => (p.1, val st p.2)) parts.toList = List.map (fun p => (p.1, val st' p.2)) parts.toList :=
      List.map_congr_left fun p hp => by rw [hv p.2 (by simpa using ⟨p.1, by simpa using hp⟩)]
    rw [this]
  case buildSlice t n parts =>
    have : List.map (fun p => (p.1, val st p.2)) parts.toList = List.map (fun p => (p.1, val st' p.2)) parts.toList :=
      List.map_congr_left fun p hp => by rw [hv p.2 (by simpa using ⟨p.1, by simpa using hp⟩)]
    rw [this]
  case load t x =>
    rw [← hv x (by simp)]
    exact look_congr fun id i j e => ha id (by simp [acc, hop, e])
  case store t x v =>
    rw [← hv x (by simp), ← hv v (by simp)]
    have key : ∀ id i j, val st x = .p id i j → gm st.m id = gm st'.m id := fun id i j e => ha id (by simp [acc, hop, e])
    generalize val st x = vx at key
    cases vx <;> first | rfl | simp only [key _ _ _ rfl]
  case unOp k t x =>
    cases k <;> simp only [hv x (by simp)]
  case indexAddr t x ix =>
    rw [← hv x (by simp), ← hv ix (by simp)]
    have key : ∀ id i j, val st x = .sl id i j → gm st.m id = gm st'.m id := fun id i j e => ha id (by simp [acc, hop, e])
    generalize val st x = vx at key
    generalize val st ix = vi
    cases P.underlying t with
    | none => rfl
    | some d => cases d <;> first | rfl | (cases vx <;> first | rfl | (cases vi <;> first | rfl | simp only [key _ _ _ rfl]))
  case lookup t x ix ok =>
    rw [← hv x (by simp), ← hv ix (by simp)]
    have key : ∀ id, val st x = .mp id → gm st.m id = gm st'.m id := fun id e => ha id (by simp [acc, hop, e])
    generalize val st x = vx at key
    generalize val st ix = vi
    cases P.underlying t with
    | none => rfl
    | some d => cases d <;> first | rfl | (cases vx <;> first | rfl | simp only [key _ rfl])
  case mapUpdate t x k v =>
    rw [← hv x (by simp), ← hv k (by simp), ← hv v (by simp)]
    have key : ∀ id, val st x = .mp id → gm st.m id = gm st'.m id := fun id e => ha id (by simp [acc, hop, e])
    generalize val st x = vx at key
    generalize val st k = vk
    generalize val st v = vv
    cases P.underlying t with
    | none => rfl
    | some d => cases d <;> first | rfl | (cases vx <;> first | rfl | simp only [key _ rfl])
  case mapEntry t x k =>
    rw [← hv x (by simp), ← hv k (by simp)]
    have key : ∀ id, val st x = .mp id → gm st.m id = gm st'.m id := fun id e => ha id (by simp [acc, hop, e])
    generalize val st x = vx at key
    generalize val st k = vk
    cases P.underlying t with
    | none => rfl
    | some d => cases d <;> first | rfl | (cases vx <;> first | rfl | simp only [key _ rfl])
  case entryStore t x s v =>
    rw [← hv x (by simp), ← hv s (by simp), ← hv v (by simp)]
    have key : ∀ id, val st x = .mp id → gm st.m id = gm st'.m id := fun id e => ha id (by simp [acc, hop, e])
    generalize val st x = vx at key
    generalize val st s = vs
    generalize val st v = vv
    cases P.underlying t with
    | none => rfl
    | some d => cases d <;> first | rfl | (cases vx <;> first | rfl | (cases vs <;> first | rfl | (rename_i kk nn; cases kk <;> first | rfl | simp only [key _ rfl])))
  case next x b =>
    cases b with
    | false => rfl
    | true =>
      simp only
      rw [← hv x (by simp)]
      have key : ∀ id, val st x = .it id → gm st.m id = gm st'.m id := fun id e => ha id (by simp [acc, hop, e])
      generalize val st x = vx at key
      cases vx <;> first | rfl | simp only [key _ rfl]
  case makeMap t rs =>
    cases rs <;> rfl
  case slice t x l h m =>
    cases m with
    | some m => rfl
    | none =>
      have h1 : ∀ d, numOf st d l = numOf st' d l := fun d => by cases l <;> simp [numOf]; exact hv _ (by simp)
      have h2 : ∀ d, numOf st d h = numOf st' d h := fun d => by cases h <;> simp [numOf]; exact hv _ (by simp)
      simp only [h1, h2]
      rw [← hv x (by simp)]
      have key : ∀ id i j, val st x = .sl id i j → gm st.m id = gm st'.m id := fun id i j e => ha id (by simp [acc, hop, e])
      generalize val st x = vx at key
      cases P.underlying t with
      | none => rfl
      | some d => cases d <;> first | rfl | (cases vx <;> first | rfl | simp only [key _ _ _ rfl])
  case makeFunc f first caps =>
    cases f with
    | func f =>
      have : caps.toList.map (val st) = caps.toList.map (val st') := List.map_congr_left fun x hx => hv x (Array.mem_append.2 (.inr (by simpa using hx)))
      simp only [this]
    | _ => rfl
  case call c =>
    cases hc : c.callee with
    | value f =>
      have := hv f (by simp [Call.operands, hc])
      simp only [this, hargs c hop]
    | builtin b =>
      cases b <;> simp only [hargs c hop]
      case copy =>
        have key : ∀ id i j y, c.args.toList.map (val st') = [.sl id i j, y] → gm st.m id = gm st'.m id := fun id i j y e => ha id (by simp only [acc, hop, isCopy, hc, cond_true, hargs c hop, e])
        split <;> try rfl
        rename_i id off len y t t' e _
        exact copyV_congr (key _ _ _ _ e)
    | invoke r m => rfl
def LookSame (P : Program) (b b' : Blk) : Prop := b = b' ∨ ∃ kt vt es es', b = .mp kt vt es ∧ b' = .mp kt vt es' ∧ ∀ z k, zeroT P vt = some z → (mget k es).getD z = (mget k es').getD z
theorem LookSame.refl (b : Blk) : LookSame P b b := .inl rfl
theorem LookSame.trans {a b c : Blk} (h : LookSame P a b) (h' : LookSame P b c) : LookSame P a c := by
  rcases h with rfl | ⟨kt, vt, es, es', rfl, rfl, h1⟩
  · exact h'
  · rcases h' with rfl | ⟨kt', vt', es2, es3, e1, rfl, h2⟩
    · exact .inr ⟨kt, vt, es, es', rfl, rfl, h1⟩
    · cases e1
      exact .inr ⟨kt, vt, es, es3, rfl, rfl, fun z k hz => (h1 z k hz).trans (h2 z k hz)⟩
def isLookF (o : Oper) : Bool := match o.op with
  | .lookup _ _ _ false => true
  | _ => false
theorem apart_inv {x o : Oper} (h : apart x o = true) : isLookF x = true ∧ ∃ t a k, o.op = .mapEntry t a k := by
  unfold apart at h
  split at h
  · rename_i e1 e2
    exact ⟨by simp [isLookF, e1], _, _, _, e2⟩
  · cases h
theorem isLookF_inv {o : Oper} (h : isLookF o = true) : ∃ t x i, o.op = .lookup t x i false := by
  unfold isLookF at h
  split at h
  · rename_i e; exact ⟨_, _, _, e⟩
  · cases h
theorem isLookF_store {o : Oper} (h : isLookF o = true) : isStore o = false := by
  obtain ⟨t, x, i, e⟩ := isLookF_inv h
  simp [isStore, e]
theorem apart_store {x o : Oper} (h : isStore x = true) : apart x o = false := by
  cases hp : apart x o with
  | false => rfl
  | true =>
    have := isLookF_store (apart_inv hp).1
    rw [h] at this; cases this
theorem mapEntry_same {site : Nat} {o : Oper} {st : St} {e : Eff} {t : TypeId} {a k : Operand} (ho : o.op = .mapEntry t a k) (h : evOp P S RO site o st some = some e) {id : Nat} {b : Blk} (hb : e.m = some (id, b)) : LookSame P (gm st.m id) b := by
  unfold evOp at h
  simp only [ho] at h
  split at h <;> first | (cases h; done) | skip
  split at h <;> first | (cases h; done) | skip
  rename_i hm
  split at h <;> first | (cases h; done) | skip
  rename_i hz
  obtain ⟨hg, h2⟩ := cond_some h
  simp only [Bool.and_eq_true] at hg
  obtain rfl := Nat.eq_of_beq_eq_true hg.1.1
  obtain rfl := Nat.eq_of_beq_eq_true hg.1.2
  cases h2
  simp only [Option.some.injEq, Prod.mk.injEq] at hb
  obtain ⟨rfl, rfl⟩ := hb
  rw [hm]
  refine .inr ⟨_, _, _, _, rfl, rfl, fun z k' hz' => ?_⟩
  rw [hz] at hz'
  cases hz'
  exact (mget_madd _).symm
theorem lookF_congr {site : Nat} {o : Oper} {st st' : St} (hl : isLookF o = true) (hv : ∀ x, x ∈ o.op.operands → val st x = val st' x) (ha : ∀ id, acc o st = some id → LookSame P (gm st.m id) (gm st'.m id)) :
    evOp P S RO site o st some = evOp P S RO site o st' some := by
  obtain ⟨t, x, ix, hop⟩ := isLookF_inv hl
  rw [hop] at hv
  simp only [Op.operands] at hv
  unfold evOp
  simp only [hop]
  rw [← hv x (by simp), ← hv ix (by simp)]
  have key : ∀ id, val st x = .mp id → LookSame P (gm st.m id) (gm st'.m id) := fun id e => ha id (by simp [acc, hop, e])
  generalize val st x = vx at key
  generalize val st ix = vi
  cases P.underlying t with
  | none => rfl
  | some d =>
    cases d <;> try rfl
    rename_i kt vt
    cases vx <;> try rfl
    rename_i id
    simp only
    rcases key id rfl with e | ⟨kt', vt', es, es', e1, e2, e3⟩
    · rw [e]
    · rw [e1, e2]
      simp only
      cases hz : zeroT P vt with
      | none => cases asT P kt vi <;> rfl
      | some z =>
        cases asT P kt vi with
        | none => rfl
        | some k =>
          simp only
          cases hg : Nat.beq kt kt' && Nat.beq vt vt' with
          | false => rfl
          | true =>
            simp only [Bool.and_eq_true] at hg
            obtain rfl := Nat.eq_of_beq_eq_true hg.2
            simp only [cond_true, cond_false, mval, e3 z k hz]
end Go.Ev

set_option linter.unusedVariables false
set_option linter.unusedSimpArgs false
namespace Go.Ev
open Go Go.RowKit

variable {P : Program} {w0 : Base} {X D : Nat → Nat → Prop} {R : Nat → Option (Nat × Nat × Nat)} {st : St} {a : Act} {w : World}
variable {ro : Option Nat} {n : Nat} {Q : Exit → Act → World → Prop} {ρ : Type} {S : Spec} {RO : Nat → Bool}

def Does (P : Program) (S : Spec) (RO : Nat → Bool) (ops : Array Oper) (site : Nat) (o : Oper) (st : St) (e : Eff) : Prop :=
  (o.guard = none ∧ evOp P S RO site o st some = some e) ∨
  (∃ g want tg, o.guard = some (g, want) ∧ (ops[g]?).bind (·.dst) = some tg ∧
    ((gt st.t tg = .b want ∧ evOp P S RO site o st some = some e) ∨
     ((gt st.t tg = .b (!want) ∨ gt st.t tg = .tup []) ∧ e = ⟨.tup [], none⟩)))

def fT (ops : Array Oper) (E : List Eff) (x i : Nat) : Option AV :=
  match ops[i]?, E[i]? with
  | some o, some e => if o.dst = some x then some e.v else none
  | _, _ => none
def fM (E : List Eff) (id i : Nat) : Option Blk :=
  match E[i]? with
  | some e => match e.m with
    | some (id', b) => if id' = id then some b else none
    | none => none
  | none => none
def only {β : Type} (U : Nat → Bool) (f : Nat → Option β) (i : Nat) : Option β := if U i = true then f i else none
structure Stn (ops : Array Oper) (E : List Eff) (st0 : St) (U : Nat → Bool) (n : Nat) (s : St) : Prop where
  t : ∀ x, gt s.t x = (lastOf (only U (fT ops E x)) n).getD (gt st0.t x)
  m : ∀ id, gm s.m id = (lastOf (only U (fM E id)) n).getD (gm st0.m id)
  nx : s.nx = st0.nx
  nt : s.nt = st0.nt
def every : Nat → Bool := fun _ => true

theorem Stn.eqv {ops : Array Oper} {E : List Eff} {st0 : St} {U : Nat → Bool} {n : Nat} {s s' : St} (h : Stn ops E st0 U n s) (he : Eqv s s') : Stn ops E st0 U n s' :=
  ⟨fun x => by rw [← he.t]; exact h.t x, fun x => by rw [← he.m]; exact h.m x, he.nx.symm.trans h.nx, he.nt.symm.trans h.nt⟩
theorem Stn.congr {ops : Array Oper} {E E' : List Eff} {st0 : St} {U : Nat → Bool} {n : Nat} {s : St} (h : Stn ops E st0 U n s) (he : ∀ i, i < n → E[i]? = E'[i]?) : Stn ops E' st0 U n s := by
  refine ⟨fun x => ?_, fun id => ?_, h.nx, h.nt⟩
  · rw [h.t, lastOf_congr fun i hi => ?_]
    simp only [only, fT, he i hi]
  · rw [h.m, lastOf_congr fun i hi => ?_]
    simp only [only, fM, he i hi]

def Path (P : Program) (S : Spec) (RO : Nat → Bool) (ops : Array Oper) (base : Nat) (chk : Nat → Oper → St → Bool) (st0 : St) {ρ : Type} (K : St → Option ρ) (r : ρ) (E0 : List Eff) (j m : Nat) : Prop :=
    ∃ E, (∀ i, i < j → E[i]? = E0[i]?) ∧ E.length = m ∧
      (∀ i o, j ≤ i → i < m → ops[i]? = some o → ∃ e s, E[i]? = some e ∧ Stn ops E st0 every i s ∧ Does P S RO ops (base + i) o s e ∧ chk i o s = true ∧ (∀ x, o.dst = some x → x < st0.nt)) ∧
      ∃ s, Stn ops E st0 every m s ∧ K s = some r
theorem evOps_path {ops : Array Oper} {base : Nat} {chk : Nat → Oper → St → Bool} {st0 : St} {K : St → Option ρ} {r : ρ} :
    ∀ (l : List Oper) (j : Nat) (st : St) (E0 : List Eff), (∀ i, i < l.length → l[i]? = ops[j + i]?) → E0.length = j → Stn ops E0 st0 every j st → evOps P S RO ops base chk l j st K = some r →
    Path P S RO ops base chk st0 K r E0 j (j + l.length)
  | [], j, st, E0, hl, hE, hS, he => by
    refine ⟨E0, fun _ _ => rfl, by simpa using hE, fun i o hi hm ho => ?_, st, by simpa using hS, he⟩
    simp at hm; omega
  | o :: l, j, st, E0, hl, hE, hS, he => by
    have ho : ops[j]? = some o := by have := hl 0 (by simp); simpa using this.symm
    have hl' : ∀ i, i < l.length → l[i]? = ops[j + 1 + i]? := fun i hi => by
      have := hl (i + 1) (by simpa using hi)
      simp only [List.getElem?_cons_succ] at this
      rw [this]; congr 1; omega
    simp only [evOps] at he
    obtain ⟨hdst, he⟩ := cond_some he
    obtain ⟨hdst, hchk⟩ := Bool.and_eq_true_iff.1 hdst
    have hb := dst_ok hdst
    rw [hS.nt] at hb
    -- one step
    have step : ∀ (e : Eff) (s1 : St), Eqv s1 (st.app o.dst e) → Does P S RO ops (base + j) o st e → evOps P S RO ops base chk l (j + 1) s1 K = some r →
        Path P S RO ops base chk st0 K r E0 j (j + (o :: l).length) := by
      intro e s1 hs1 hdo hev
      have hj : (E0 ++ [e])[j]? = some e := by simp [← hE]
      have hlt : ∀ i, i < j → (E0 ++ [e])[i]? = E0[i]? := fun i hi => by simp [List.getElem?_append, hE, hi]
      have hS1 : Stn ops (E0 ++ [e]) st0 every (j + 1) s1 := by
        have hS' : Stn ops (E0 ++ [e]) st0 every j st := hS.congr fun i hi => (hlt i hi).symm
        refine Stn.eqv ⟨fun x => ?_, fun id => ?_, by rw [app_nx]; exact hS.nx, by rw [app_nt]; exact hS.nt⟩ hs1.symm
        · rw [app_t, hS'.t]
          simp only [lastOf, only, every, fT, ho, hj, if_true]
          by_cases hx : o.dst = some x <;> simp [hx]
        · rw [app_m, hS'.m]
          simp only [lastOf, only, every, fM, hj, if_true]
          cases e.m with
          | none => rfl
          | some p =>
            obtain ⟨i, b⟩ := p
            by_cases hx : i = id <;> simp [hx]
      obtain ⟨E, h1, h2, h3, s, h4, h5⟩ := evOps_path l (j + 1) s1 (E0 ++ [e]) hl' (by simp [hE]) hS1 hev
      have hEj : E[j]? = some e := (h1 j (by omega)).trans hj
      refine ⟨E, fun i hi => (h1 i (by omega)).trans (hlt i hi), by rw [h2]; simp; omega, fun i o' hi hm ho' => ?_, s, by rw [List.length_cons]; rw [show j + (l.length + 1) = j + 1 + l.length by omega]; exact h4, h5⟩
      by_cases e1 : i = j
      · subst e1
        have e2 : o = o' := by rw [ho] at ho'; exact Option.some.inj ho'
        subst e2
        exact ⟨e, st, hEj, hS.congr fun k hk => ((h1 k (by omega)).trans (hlt k hk)).symm, hdo, hchk, hb⟩
      · exact h3 i o' (by omega) (by simp at hm; omega) ho'
    have dir : ∀ {s : St}, Eqv s st → evOp P S RO (base + j) o s (fun e => evOps P S RO ops base chk l (j + 1) (s.app o.dst e) K) = some r →
        ∃ e, evOp P S RO (base + j) o st some = some e ∧ evOps P S RO ops base chk l (j + 1) (s.app o.dst e) K = some r := by
      intro s hs h
      rw [evOp_bind] at h
      obtain ⟨e, h1, h2⟩ := Option.bind_eq_some_iff.1 h
      exact ⟨e, (evOp_congr (fun x _ => (hs.symm.val x)) (fun id _ => hs.symm.m id)).trans h1, h2⟩
    cases hg : o.guard with
    | none =>
      rw [hg] at he
      obtain ⟨e, h1, h2⟩ := dir (Eqv.refl st) he
      exact step e _ (Eqv.refl _) (.inl ⟨hg, h1⟩) h2
    | some gw =>
      obtain ⟨g, want⟩ := gw
      rw [hg] at he
      simp only at he
      cases htg : (ops[g]?).bind (·.dst) with
      | none => rw [htg] at he; cases he
      | some tg =>
        rw [htg] at he
        simp only at he
        have perform : ∀ {x : Bool}, gt st.t tg = .b x → x = want → evOp P S RO (base + j) o (st.put (some tg) (.b x)) (fun e => evOps P S RO ops base chk l (j + 1) ((st.put (some tg) (.b x)).app o.dst e) K) = some r → Path P S RO ops base chk st0 K r E0 j (j + (o :: l).length) := by
          intro x hx hw h
          have hq := put_know hx
          obtain ⟨e, h1, h2⟩ := dir hq h
          exact step e _ (hq.app _ _) (.inr ⟨g, want, tg, hg, htg, .inl ⟨by rw [hx, hw], h1⟩⟩) h2
        have pass : ∀ {x : Bool}, gt st.t tg = .b x → x = !want → evOps P S RO ops base chk l (j + 1) ((st.put (some tg) (.b x)).put o.dst (.tup [])) K = some r → Path P S RO ops base chk st0 K r E0 j (j + (o :: l).length) := by
          intro x hx hw h
          have hq := put_know hx
          exact step ⟨.tup [], none⟩ _ (hq.app o.dst ⟨.tup [], none⟩) (.inr ⟨g, want, tg, hg, htg, .inr ⟨.inl (by rw [hx, hw]), rfl⟩⟩) h
        split at he
        · rename_i x hx
          cases x <;> cases want <;> simp only [cond_true, cond_false] at he
          · exact perform hx rfl he
          · exact pass hx rfl he
          · exact pass hx rfl he
          · exact perform hx rfl he
        · rename_i hx
          exact step ⟨.tup [], none⟩ _ (Eqv.refl _) (.inr ⟨g, want, tg, hg, htg, .inr ⟨.inr hx, rfl⟩⟩) he
        · cases he

theorem evOps_path_take {ops : Array Oper} {base c : Nat} {chk : Nat → Oper → St → Bool} {st : St} {K : St → Option ρ} {r : ρ} (hc : c ≤ ops.size) (h0 : Stn ops [] st every 0 st) (he : evOps P S RO ops base chk (ops.toList.take c) 0 st K = some r) :
    ∃ E, E.length = c ∧ (∀ i o, i < c → ops[i]? = some o → ∃ e s, E[i]? = some e ∧ Stn ops E st every i s ∧ Does P S RO ops (base + i) o s e ∧ chk i o s = true ∧ (∀ x, o.dst = some x → x < st.nt)) ∧
      ∃ s, Stn ops E st every c s ∧ K s = some r := by
  have hl : (ops.toList.take c).length = c := by simp; omega
  obtain ⟨E, _, h2, h3, s, h4, h5⟩ := evOps_path (ops.toList.take c) 0 st [] (fun i hi => by
    rw [hl] at hi
    simp [List.getElem?_take, hi]) rfl h0 he
  rw [Nat.zero_add, hl] at h2 h4
  exact ⟨E, h2, fun i o hi ho => h3 i o (Nat.zero_le _) (by omega) ho, s, h4, h5⟩
end Go.Ev

set_option linter.unusedVariables false
set_option linter.unusedSimpArgs false
namespace Go.Ev
open Go Go.RowKit

variable {P : Program} {w0 : Base} {X D : Nat → Nat → Prop} {R : Nat → Option (Nat × Nat × Nat)} {st : St} {a : Act} {w : World}
variable {ro : Option Nat} {n : Nat} {Q : Exit → Act → World → Prop} {ρ : Type} {S : Spec} {RO : Nat → Bool}

theorem befRow_spec (Ms : List Nat) (o : Oper) {i : Nat} (h : Nat.testBit (befRow Ms o) i = true) :
    ∃ e, e ∈ o.after ∧ Region.binds .any e = true ∧ (e.on = i ∨ Nat.testBit (Ms.getD e.on 0) i = true) := by
  unfold befRow at h
  have : ∀ (l : List Edge) (m : Nat), Nat.testBit (l.foldl (fun m e => cond (Region.binds .any e) ((m ||| (2 ^ e.on)) ||| Ms.getD e.on 0) m) m) i = true →
      Nat.testBit m i = true ∨ ∃ e, e ∈ l ∧ Region.binds .any e = true ∧ (e.on = i ∨ Nat.testBit (Ms.getD e.on 0) i = true) := by
    intro l
    induction l with
    | nil => intro m h; exact .inl h
    | cons e l ih =>
      intro m h
      rcases ih _ h with h | ⟨e', h1, h2⟩
      rotate_left
      · exact .inr ⟨e', by simp [h1], h2⟩
      simp only at h
      · cases hb : Region.binds .any e with
        | false => rw [hb] at h; exact .inl h
        | true =>
          rw [hb] at h
          simp only [cond_true, Nat.testBit_or, Bool.or_eq_true, Nat.testBit_two_pow, decide_eq_true_eq] at h
          rcases h with (h | h) | h
          · exact .inl h
          · exact .inr ⟨e, by simp, hb, .inl h⟩
          · exact .inr ⟨e, by simp, hb, .inr h⟩
  rcases this _ _ h with h | ⟨e, h1, h2⟩
  · simp at h
  · exact ⟨e, by simpa using h1, h2⟩

theorem drawRows_spec {ops : Array Oper} {Ms : List Nat} : ∀ (l : List Oper) (j : Nat), (∀ i, l[i]? = ops[j + i]?) → drawRows ops Ms l j = true →
    ∀ k o, j ≤ k → ops[k]? = some o → Ms.getD k 0 = befRow Ms o ∧ Ms.getD k 0 < 2 ^ k ∧ (∀ i x, i < k → ops[i]? = some x → clash ops x o = true → Nat.testBit (Ms.getD k 0) i = true) ∧ ∀ i x, i ≤ k → ops[i]? = some x → steady ops x o = true
  | [], j, hl, h, k, o, hk, ho => by
    have := hl (k - j)
    rw [show j + (k - j) = k by omega, ho] at this
    simp at this
  | o' :: l, j, hl, h, k, o, hk, ho => by
    have ho' : ops[j]? = some o' := by have := hl 0; simpa using this.symm
    have hl' : ∀ i, l[i]? = ops[j + 1 + i]? := fun i => by
      have := hl (i + 1)
      simp only [List.getElem?_cons_succ] at this
      rw [this]; congr 1; omega
    simp only [drawRows, Bool.and_eq_true] at h
    obtain ⟨h1, h2, h3, h5, h4⟩ := h
    by_cases e : k = j
    · subst e
      have e2 : o' = o := by rw [ho] at ho'; exact (Option.some.inj ho').symm
      subst e2
      refine ⟨Nat.eq_of_beq_eq_true h1, by simpa [Nat.blt_eq] using h2, fun i x hi hx hc => ?_, fun i x hi hx => ?_⟩
      · have := List.all_eq_true.1 h3 i (by simpa using hi)
        rw [hx] at this
        simp only [hc, Bool.not_true, Bool.false_or, Bool.and_eq_true] at this
        exact this.1
      · by_cases e : i = k
        · subst e
          rw [ho] at hx
          cases hx
          exact h5
        · have := List.all_eq_true.1 h3 i (by simp; omega)
          rw [hx] at this
          exact (Bool.and_eq_true_iff.1 this).2
    · exact drawRows_spec l (j + 1) hl' h4 k o (by omega) ho

theorem bit_lt {m j i : Nat} (h : m < 2 ^ j) (hb : Nat.testBit m i = true) : i < j := by
  rcases Nat.lt_or_ge i j with h' | h'
  · exact h'
  · rw [Nat.testBit_lt_two_pow (Nat.lt_of_lt_of_le h (Nat.pow_le_pow_right (by omega) h'))] at hb
    cases hb

section
variable {ops : Array Oper} {E : List Eff} {base c : Nat} {st0 : St}
structure PathOK (P : Program) (S : Spec) (RO : Nat → Bool) (ops : Array Oper) (base : Nat) (st0 : St) (E : List Eff) (c : Nat) : Prop where
  le : c ≤ ops.size
  len : E.length = c
  row : ∀ k o, ops[k]? = some o → (befs ops).getD k 0 = befRow (befs ops) o ∧ (befs ops).getD k 0 < 2 ^ k ∧ (∀ i x, i < k → ops[i]? = some x → clash ops x o = true → Nat.testBit ((befs ops).getD k 0) i = true) ∧ ∀ i x, i ≤ k → ops[i]? = some x → steady ops x o = true
  each : ∀ i o, i < c → ops[i]? = some o → ∃ e s, E[i]? = some e ∧ Stn ops E st0 every i s ∧ Does P S RO ops (base + i) o s e ∧ accOK ops (befs ops) base i o s = true ∧ (∀ x, o.dst = some x → x < st0.nt)

def bef (ops : Array Oper) (j i : Nat) : Prop := Nat.testBit ((befs ops).getD j 0) i = true
theorem PathOK.lt (h : PathOK P S RO ops base st0 E c) {j i : Nat} {o : Oper} (ho : ops[j]? = some o) (hb : bef ops j i) : i < j := bit_lt (h.row j o ho).2.1 hb
theorem PathOK.clash (h : PathOK P S RO ops base st0 E c) {j i : Nat} {x o : Oper} (hi : i < j) (hx : ops[i]? = some x) (ho : ops[j]? = some o) (hc : clash ops x o = true) : bef ops j i := (h.row j o ho).2.2.1 i x hi hx hc

theorem PathOK.writer (h : PathOK P S RO ops base st0 E c) {k id : Nat} {o : Oper} {b : Blk} (ho : ops[k]? = some o) (hw : fM E id k = some b) :
    (isStore o = false ∧ id = base + k) ∨ (isStore o = true ∧ (id < base ∨ bef ops k (id - base)) ∧ ∃ s, Stn ops E st0 every k s ∧ acc o s = some id ∧ accOK ops (befs ops) base k o s = true) := by
  have hkc : k < c := by
    rcases Nat.lt_or_ge k c with h' | h'
    · exact h'
    · rw [fM, List.getElem?_eq_none (by rw [h.len]; exact h')] at hw
      cases hw
  obtain ⟨e, s, h1, h2, h3, h4, h5⟩ := h.each k o hkc ho
  simp only [fM, h1] at hw
  have key : ∀ b', e.m = some (id, b') → evOp P S RO (base + k) o s some = some e → (isStore o = false ∧ id = base + k) ∨ (isStore o = true ∧ (id < base ∨ bef ops k (id - base)) ∧ ∃ s, Stn ops E st0 every k s ∧ acc o s = some id ∧ accOK ops (befs ops) base k o s = true) := fun b' hm hev => by
    rcases evOp_eff hev with g | ⟨g1, b2, g2⟩ | ⟨g1, id2, b2, g2, g3⟩
    · rw [hm] at g; cases g
    · rw [hm] at g2
      simp only [Option.some.injEq, Prod.mk.injEq] at g2
      exact .inl ⟨g1, g2.1⟩
    · rw [hm] at g3
      simp only [Option.some.injEq, Prod.mk.injEq] at g3
      obtain ⟨rfl, _⟩ := g3
      refine .inr ⟨g1, ?_, s, h2, g2, h4⟩
      have h4 := (Bool.and_eq_true_iff.1 h4).1
      simp only [g2, Bool.or_eq_true, Nat.blt_eq] at h4
      exact h4
  cases hm : e.m with
  | none => rw [hm] at hw; cases hw
  | some p =>
    obtain ⟨i', b'⟩ := p
    rw [hm] at hw
    simp only at hw
    split at hw
    · rename_i e1
      subst e1
      rcases h3 with ⟨_, h3⟩ | ⟨g, want, tg, _, _, ⟨_, h3⟩ | ⟨_, h3⟩⟩
      · exact key b' hm h3
      · exact key b' hm h3
      · rw [h3] at hm; cases hm
    · cases hw
theorem fT_some {x k : Nat} {v : AV} (h : fT ops E x k = some v) : ∃ o, ops[k]? = some o ∧ o.dst = some x := by
  unfold fT at h
  split at h
  · rename_i o e h1 h2
    split at h
    · rename_i hd; exact ⟨o, h1, hd⟩
    · cases h
  · cases h
theorem clash_look {x o : Oper} {d : Nat} (h : x.dst = some d) (hm : d ∈ looks ops o) : clash ops x o = true := by
  simp [Ev.clash, h, has_iff.2 hm]
theorem clash_look' {x o : Oper} {d : Nat} (h : o.dst = some d) (hm : d ∈ looks ops x) : clash ops x o = true := by
  simp [Ev.clash, h, has_iff.2 hm]
theorem clash_dst {x o : Oper} {d : Nat} (h : x.dst = some d) (h' : o.dst = some d) : clash ops x o = true := by
  simp [Ev.clash, h, h']
theorem memS_acc {o : Oper} {s : St} {id : Nat} (h : acc o s = some id) : memS o = true := by
  unfold acc at h
  unfold memS
  cases hop : o.op <;> simp [hop] at h ⊢
  rename_i c
  cases hc : isCopy c
  · rw [hc] at h; cases h
  · rfl
theorem acc_congr {o : Oper} {s s' : St} (h : ∀ x, x ∈ looks ops o → gt s.t x = gt s'.t x) : acc o s = acc o s' := by
  have hv : ∀ x, x ∈ o.op.operands → val s x = val s' x := fun x hx => by
    cases x with
    | tmp t => exact h t (List.mem_append_left _ (List.mem_filterMap.2 ⟨.tmp t, by simpa using hx, rfl⟩))
    | _ => rfl
  have key : ∀ x, x ∈ o.op.operands → (match val s x with
      | .p id _ _ => some id
      | .sl id _ _ => some id
      | .mp id => some id
      | .it id => some id
      | _ => none) = (match val s' x with
      | .p id _ _ => some id
      | .sl id _ _ => some id
      | .mp id => some id
      | .it id => some id
      | _ => (none : Option Nat)) := fun x hx => by rw [hv x hx]
  unfold acc
  cases hop : o.op <;> try rfl
  case call c =>
    have : c.args.toList.map (val s) = c.args.toList.map (val s') := List.map_congr_left fun x hx => hv x (by rw [hop]; simp only [Op.operands, Call.operands]; exact Array.mem_append.2 (.inr (by simpa using hx)))
    simp only [this]
  all_goals exact key _ (by simp [hop, Op.operands])
theorem PathOK.still (h : PathOK P S RO ops base st0 E c) {i j : Nat} {o : Oper} {si sj : St} (hij : i ≤ j) (ho : ops[i]? = some o) (hm : memS o = true) (hi : Stn ops E st0 every i si) (hj : Stn ops E st0 every j sj) : acc o si = acc o sj := by
  refine acc_congr (ops := ops) fun x hx => ?_
  rw [hi.t, hj.t]
  congr 1
  refine (lastOf_upto hij fun k hk hkj => ?_).symm
  simp only [only, every, if_true]
  cases hf : fT ops E x k with
  | none => rfl
  | some v =>
    obtain ⟨ok, h1, h2⟩ := fT_some hf
    have := (h.row k ok h1).2.2.2 i o hk ho
    simp only [steady, hm, h2, has_iff.2 hx, Bool.and_self, Bool.not_true] at this
    cases this
theorem PathOK.order (h : PathOK P S RO ops base st0 E c) {i j id : Nat} {x o : Oper} {si sj : St} (hij : i < j) (hx : ops[i]? = some x) (hi : Stn ops E st0 every i si) (hj : Stn ops E st0 every j sj)
    (ha : acc x si = some id) (ha' : acc o sj = some id) (hc : accOK ops (befs ops) base j o sj = true) (hs : isStore x = true ∨ isStore o = true) (hap : apart x o = false) : bef ops j i := by
  have hst := h.still (by omega) hx (memS_acc ha) hi hj
  have hm := (Bool.and_eq_true_iff.1 hc).2
  simp only [memOK, ha'] at hm
  have := List.all_eq_true.1 hm i (by simpa using hij)
  rw [hx] at this
  simp only [← hst, ha, Nat.beq_refl, Bool.not_true, Bool.false_or, hap, Bool.or_false] at this
  rcases hs with hs | hs <;> simpa [hs, bef] using this

theorem PathOK.same (h : PathOK P S RO ops base st0 E c) {o ok : Oper} {k id : Nat} {b : Blk} (hk : k < c) (h1 : ops[k]? = some ok) (hap : apart o ok = true) (hf : fM E id k = some b) :
    LookSame P ((lastOf (only every (fM E id)) k).getD (gm st0.m id)) b := by
  obtain ⟨e, s, g1, g2, g3, g4, g5⟩ := h.each k ok hk h1
  simp only [fM, g1] at hf
  obtain ⟨_, t, a, kk, hop⟩ := apart_inv hap
  rw [← g2.m]
  cases hm : e.m with
  | none => rw [hm] at hf; cases hf
  | some p =>
    obtain ⟨i', b'⟩ := p
    rw [hm] at hf
    simp only at hf
    split at hf
    · rename_i e1
      subst e1
      cases hf
      rcases g3 with ⟨_, g3⟩ | ⟨g, want, tg, _, _, ⟨_, g3⟩ | ⟨_, g3⟩⟩
      · exact mapEntry_same hop g3 hm
      · exact mapEntry_same hop g3 hm
      · rw [g3] at hm; cases hm
    · cases hf
theorem PathOK.agree (h : PathOK P S RO ops base st0 E c) {U : Nat → Bool} {s : St} (hs : Stn ops E st0 U c s) (hdc : ∀ i k, U i = true → bef ops i k → U k = true)
    {i : Nat} {o : Oper} (hiN : i < c) (ho : ops[i]? = some o) (hU : U i = false) (hpre : ∀ k, bef ops i k → U k = true) {si : St} (hsi : Stn ops E st0 every i si) (hacc : accOK ops (befs ops) base i o si = true) :
    (∀ x, x ∈ looks ops o → gt si.t x = gt s.t x) ∧ (∀ id, acc o si = some id → gm si.m id = gm s.m id ∨ (isLookF o = true ∧ LookSame P (gm si.m id) (gm s.m id))) := by
  have hlen := h.len
  have hle := h.le
  refine ⟨fun x hx => ?_, fun id hid => ?_⟩
  · rw [hsi.t, hs.t]
    congr 1
    rw [lastOf_upto (j := i) (n := c) (by omega) fun k hk hkN => ?_]
    · refine lastOf_congr fun k hk => ?_
      simp only [only, every, if_true]
      cases hf : fT ops E x k with
      | none => simp
      | some v =>
        obtain ⟨ok, h1, h2⟩ := fT_some hf
        rw [if_pos (hpre k (h.clash hk h1 ho (clash_look h2 hx)))]
    · simp only [only]
      split
      · rename_i hUk
        cases hf : fT ops E x k with
        | none => rfl
        | some v =>
          obtain ⟨ok, h1, h2⟩ := fT_some hf
          have hne : k ≠ i := fun e => by rw [e, hU] at hUk; cases hUk
          have := hdc k i hUk (h.clash (by omega) ho h1 (clash_look' h2 hx))
          rw [hU] at this; cases this
      · rfl
  · have hacc0 := hacc
    have hacc := (Bool.and_eq_true_iff.1 hacc).1
    simp only [hid, Bool.or_eq_true, Nat.blt_eq] at hacc
    have hcl : ∀ k b, k < c → fM E id k = some b → ∃ ok, ops[k]? = some ok := fun k b hk hf => by
      cases hE : E[k]? with
      | none => simp [fM, hE] at hf
      | some e =>
        have := (List.getElem?_eq_some_iff.1 hE).1
        exact ⟨ops[k]'(by omega), by simp⟩
    -- up to its own place
    have hbase : lastOf (only every (fM E id)) i = lastOf (only U (fM E id)) i := by
      refine lastOf_congr fun k hk => ?_
      simp only [only, every, if_true]
      cases hf : fM E id k with
      | none => simp
      | some b =>
        obtain ⟨ok, h1⟩ := hcl k b (by omega) hf
        rw [if_pos (hpre k ?_)]
        rcases h.writer h1 hf with ⟨g1, g2⟩ | ⟨g1, g2, sk, g3, g4, g5⟩
        · subst g2
          rcases hacc with g | g
          · omega
          · simpa [bef] using g
        · exact h.order hk h1 g3 hsi g4 hid hacc0 (.inl g1) (apart_store g1)
    -- who writes behind it
    have hbeh : ∀ k ok b, i ≤ k → k < c → ops[k]? = some ok → fM E id k = some b → k ≠ i → ∃ sk, isStore ok = true ∧ Stn ops E st0 every k sk ∧ acc ok sk = some id ∧ accOK ops (befs ops) base k ok sk = true := fun k ok b hk hkN h1 hf hne => by
      rcases h.writer h1 hf with ⟨g1, g2⟩ | ⟨g1, g2, sk, g3, g4, g5⟩
      · subst g2
        rcases hacc with g | g
        · omega
        · have := h.lt ho (show bef ops i k by simpa [bef] using g)
          omega
      · exact ⟨sk, g1, g3, g4, g5⟩
    cases hlk : isLookF o with
    | false =>
      left
      rw [hsi.m, hs.m]
      congr 1
      rw [lastOf_upto (j := i) (n := c) (by omega) fun k hk hkN => ?_]
      · exact hbase
      · simp only [only]
        split
        · rename_i hUk
          cases hf : fM E id k with
          | none => rfl
          | some b =>
            obtain ⟨ok, h1⟩ := hcl k b (by omega) hf
            have hne : k ≠ i := fun e => by rw [e, hU] at hUk; cases hUk
            obtain ⟨sk, g1, g3, g4, g5⟩ := hbeh k ok b hk hkN h1 hf hne
            have hap : apart o ok = false := by
              cases hp : apart o ok with
              | false => rfl
              | true => rw [(apart_inv hp).1] at hlk; cases hlk
            have := hdc k i hUk (h.order (by omega) ho hsi g3 hid g4 g5 (.inr g1) hap)
            rw [hU] at this; cases this
        · rfl
    | true =>
      right
      refine ⟨rfl, ?_⟩
      have hni : ∀ b, fM E id i ≠ some b := fun b hf => by
        rcases h.writer ho hf with ⟨g1, g2⟩ | ⟨g1, g2⟩
        · subst g2
          rcases hacc with g | g
          · omega
          · have := h.lt ho (show bef ops i i by simpa [bef] using g)
            omega
        · rw [isLookF_store hlk] at g1; cases g1
      -- in the text's order, up to one that is done
      have hB : ∀ n, i ≤ n → n < c → U n = true → (∃ on sn, ops[n]? = some on ∧ isStore on = true ∧ Stn ops E st0 every n sn ∧ acc on sn = some id ∧ accOK ops (befs ops) base n on sn = true) →
          ∀ m, i ≤ m → m ≤ n → LookSame P (gm si.m id) ((lastOf (only every (fM E id)) m).getD (gm st0.m id)) := by
        intro n hn hnc hUn hon m
        obtain ⟨on, sn, n1, n2, n3, n4, n5⟩ := hon
        induction m with
        | zero =>
          intro h1 h2
          obtain rfl : i = 0 := by omega
          rw [hsi.m]; exact .refl _
        | succ m ih =>
          intro h1 h2
          by_cases em : i = m + 1
          · subst em; rw [hsi.m]; exact .refl _
          have ih' := ih (by omega) (by omega)
          simp only [lastOf]
          cases hf : only every (fM E id) m with
          | none => exact ih'
          | some b =>
            simp only [only, every, if_true] at hf
            obtain ⟨ok, q1⟩ := hcl m b (by omega) hf
            have hne : m ≠ i := fun e => hni b (e ▸ hf)
            obtain ⟨sk, g1, g3, g4, g5⟩ := hbeh m ok b (by omega) (by omega) q1 hf hne
            cases hp : apart o ok with
            | true => exact ih'.trans (h.same (by omega) q1 hp hf)
            | false =>
              exfalso
              have b1 := h.order (show i < m by omega) ho hsi g3 hid g4 g5 (.inr g1) hp
              have b2 := h.order (show m < n by omega) q1 g3 n3 g4 n4 n5 (.inl g1) (apart_store g1)
              have := hdc m i (hdc n m hUn b2) b1
              rw [hU] at this; cases this
      have hA : ∀ n, i ≤ n → n ≤ c → LookSame P (gm si.m id) ((lastOf (only U (fM E id)) n).getD (gm st0.m id)) := by
        intro n
        induction n with
        | zero =>
          intro h1 h2
          obtain rfl : i = 0 := by omega
          rw [hsi.m, hbase]; exact .refl _
        | succ n ih =>
          intro h1 h2
          by_cases em : i = n + 1
          · subst em; rw [hsi.m, hbase]; exact .refl _
          have ih' := ih (by omega) (by omega)
          simp only [lastOf]
          cases hf : only U (fM E id) n with
          | none => exact ih'
          | some b =>
            simp only [only] at hf
            split at hf
            · rename_i hUn
              obtain ⟨ok, q1⟩ := hcl n b (by omega) hf
              have hne : n ≠ i := fun e => by rw [e, hU] at hUn; cases hUn
              obtain ⟨sk, g1, g3, g4, g5⟩ := hbeh n ok b (by omega) (by omega) q1 hf hne
              cases hp : apart o ok with
              | true => exact (hB n (by omega) (by omega) hUn ⟨ok, sk, q1, g1, g3, g4, g5⟩ n (by omega) (Nat.le_refl _)).trans (h.same (by omega) q1 hp hf)
              | false =>
                exfalso
                have := hdc n i hUn (h.order (show i < n by omega) ho hsi g3 hid g4 g5 (.inr g1) hp)
                rw [hU] at this; cases this
            · cases hf
      rw [hs.m]
      exact hA c (by omega) (Nat.le_refl _)

theorem PathOK.insert (h : PathOK P S RO ops base st0 E c) {U U' : Nat → Bool} {s : St} (hs : Stn ops E st0 U c s) (hdc : ∀ i k, U i = true → bef ops i k → U k = true)
    {i : Nat} {o : Oper} {e : Eff} (hiN : i < c) (ho : ops[i]? = some o) (he : E[i]? = some e) (hU : U i = false) (hU' : U' i = true) (hUk : ∀ k, k ≠ i → U' k = U k) : Stn ops E st0 U' c (s.app o.dst e) := by
  have hlen := h.len
  have hle := h.le
  refine ⟨fun x => ?_, fun id => ?_, by rw [app_nx]; exact hs.nx, by rw [app_nt]; exact hs.nt⟩
  · rw [app_t]
    by_cases hx : o.dst = some x
    · rw [if_pos hx, lastOf_at (j := i) (b := e.v) hiN (by simp [only, hU', fT, ho, he, hx]) fun k hk hkN => ?_]
      · rfl
      · simp only [only]
        split
        · rename_i hUk'
          rw [hUk k (by omega)] at hUk'
          cases hf : fT ops E x k with
          | none => rfl
          | some v =>
            obtain ⟨ok, h1, h2⟩ := fT_some hf
            have := hdc k i hUk' (h.clash hk ho h1 (clash_dst hx h2))
            rw [hU] at this; cases this
        · rfl
    · rw [if_neg hx, hs.t]
      congr 1
      refine lastOf_congr fun k hk => ?_
      by_cases e1 : k = i
      · subst e1; simp [only, hU, hU', fT, ho, he, hx]
      · simp only [only, hUk k e1]
  · rw [app_m]
    have same : fM E id i = none → gm s.m id = (lastOf (only U' (fM E id)) c).getD (gm st0.m id) := fun hn => by
      rw [hs.m]
      congr 1
      refine lastOf_congr fun k hk => ?_
      by_cases e1 : k = i
      · subst e1; simp [only, hU, hU', hn]
      · simp only [only, hUk k e1]
    cases hm : e.m with
    | none => exact same (by simp [fM, he, hm])
    | some p =>
      obtain ⟨i', b⟩ := p
      simp only
      by_cases hi : i' = id
      · subst hi
        have hw : fM E i' i = some b := by simp [fM, he, hm]
        rw [if_pos rfl, lastOf_at (j := i) (b := b) hiN (by simp [only, hU', hw]) fun k hk hkN => ?_]
        · rfl
        · simp only [only]
          split
          · rename_i hUk'
            rw [hUk k (by omega)] at hUk'
            cases hf : fM E i' k with
            | none => rfl
            | some b' =>
              exfalso
              have hok : ∃ ok, ops[k]? = some ok := by
                cases hE : E[k]? with
                | none => simp [fM, hE] at hf
                | some e' =>
                  have := (List.getElem?_eq_some_iff.1 hE).1
                  exact ⟨ops[k]'(by omega), by simp⟩
              obtain ⟨ok, h1⟩ := hok
              have no : bef ops k i → False := fun hb => by
                have := hdc k i hUk' hb
                rw [hU] at this; cases this
              rcases h.writer ho hw with ⟨g1, g2⟩ | ⟨g1, g2, s1, g3, g4, g5⟩ <;> rcases h.writer h1 hf with ⟨q1, q2⟩ | ⟨q1, q2, s2, q3, q4, q5⟩
              · omega
              · rcases q2 with q2 | q2
                · omega
                · exact no (by rw [g2] at q2; simpa using q2)
              · rcases g2 with g2 | g2
                · omega
                · have := h.lt ho g2
                  omega
              · exact no (h.order hk ho g3 q3 g4 q4 q5 (.inl g1) (apart_store g1))
          · rfl
      · rw [if_neg hi]
        exact same (by simp [fM, he, hm, hi])

theorem does_congr {site : Nat} {o : Oper} {s s' : St} {e : Eff} (ht : ∀ x, x ∈ looks ops o → gt s.t x = gt s'.t x) (hm : ∀ id, acc o s = some id → gm s.m id = gm s'.m id ∨ (isLookF o = true ∧ LookSame P (gm s.m id) (gm s'.m id))) (h : Does P S RO ops site o s e) : Does P S RO ops site o s' e := by
  have hv : ∀ x, x ∈ o.op.operands → val s x = val s' x := fun x hx => by
    cases x with
    | tmp t => exact ht t (List.mem_append_left _ (List.mem_filterMap.2 ⟨.tmp t, by simpa using hx, rfl⟩))
    | _ => rfl
  have hev : evOp P S RO site o s some = evOp P S RO site o s' some := by
    cases hl : isLookF o with
    | true =>
      refine lookF_congr hl hv fun id hid => ?_
      rcases hm id hid with g | g
      · rw [g]; exact .refl _
      · exact g.2
    | false =>
      refine evOp_congr hv fun id hid => ?_
      rcases hm id hid with g | g
      · exact g
      · rw [hl] at g; cases g.1
  rcases h with ⟨h1, h2⟩ | ⟨g, want, tg, h1, h2, h3⟩
  · exact .inl ⟨h1, hev.symm.trans h2⟩
  · have htg : gt s.t tg = gt s'.t tg := ht tg (List.mem_append_right _ (by simp [h1, h2]))
    refine .inr ⟨g, want, tg, h1, h2, ?_⟩
    rw [← htg]
    exact h3.imp_left fun ⟨q1, q2⟩ => ⟨q1, hev.symm.trans q2⟩
end
end Go.Ev

set_option linter.unusedVariables false
set_option linter.unusedSimpArgs false
namespace Go.Ev
open Go Go.RowKit

variable {P : Program} {w0 : Base} {X D : Nat → Nat → Prop} {R : Nat → Option (Nat × Nat × Nat)} {st : St} {a : Act} {w : World}
variable {ro : Option Nat} {n : Nat} {Q : Exit → Act → World → Prop} {ρ : Type} {S : Spec} {RO : Nat → Bool}

theorem count_set' : ∀ {l : List Bool} {i : Nat}, l[i]? = some false → (l.set i true).count false + 1 = l.count false
  | [], i, h => by simp at h
  | b :: l, 0, h => by
    simp at h
    subst h
    simp
  | b :: l, i + 1, h => by
    simp only [List.getElem?_cons_succ] at h
    have := count_set' h
    simp only [List.set_cons_succ, List.count_cons]
    omega
theorem countA {A : Array Bool} {i : Nat} (h : A[i]? = some false) : (A.setIfInBounds i true).toList.count false + 1 = A.toList.count false := by
  rw [Array.toList_setIfInBounds]
  exact count_set' (by simpa using h)

theorem all_listed {ops : Array Oper} (hrow : ∀ k o, ops[k]? = some o → (befs ops).getD k 0 = befRow (befs ops) o ∧ (befs ops).getD k 0 < 2 ^ k) {listed : Array Bool} (hsz : listed.size = ops.size) (hr : Region.ready .any ops listed = []) :
    ∀ i, i < ops.size → listed.getD i false = true := by
  intro i
  induction i using Nat.strongRecOn with
  | ind i ih =>
    intro hi
    cases hv : listed.getD i false with
    | true => rfl
    | false =>
      exfalso
      have hi' : i < listed.size := by omega
      have hv' : listed.getD i true = false := by
        simp [Array.getD_eq_getD_getElem?, hi'] at hv ⊢
        exact hv
      have ho : ops[i]? = some ops[i] := by simp
      have : i ∈ Region.ready .any ops listed := by
        rw [mem_ready]
        refine ⟨hv', _, ho, fun e he hb => ?_⟩
        have hb' : bef ops i e.on := by
          unfold bef
          rw [(hrow i _ ho).1]
          unfold befRow
          have : ∀ (l : List Edge) (m : Nat), (Nat.testBit m e.on = true ∨ e ∈ l) → Nat.testBit (l.foldl (fun m e => cond (Region.binds .any e) ((m ||| (2 ^ e.on)) ||| (befs ops).getD e.on 0) m) m) e.on = true := by
            intro l
            induction l with
            | nil => intro m h; rcases h with h | h; exact h; cases h
            | cons e' l ih =>
              intro m h
              refine ih _ ?_
              rcases h with h | h
              · left
                cases hb' : Region.binds .any e' <;> simp [hb', h]
              · rcases List.mem_cons.1 h with rfl | h
                · left; simp [hb]
                · exact .inr h
          exact this _ _ (.inr (by simpa using he))
        have hlt := bit_lt (hrow i _ ho).2 hb'
        exact ih e.on hlt (Nat.lt_trans hlt hi)
      rw [hr] at this
      cases this

theorem evAny_sound (hs : SpecOK P S) {R0 : Nat → Option (Nat × Nat × Nat)} {ops : Array Oper} {E : List Eff} {base c : Nat} {st0 : St} (h : PathOK P S RO ops base st0 E c) (hcut : ∀ j o, ops[j]? = some o → c ≤ j → ∀ i, i < c → bef ops j i) (ds : List Deferred)
    (hend : ∀ fuel listed D' R' s a' w', listed.size = ops.size → (∀ i, i < c → listed.getD i false = true) → (∀ i, c ≤ i → listed.getD i false = false) → listed.toList.count false ≤ fuel →
      SR P w0 X D' R' s a' w' → Stn ops E st0 every c s → Fresh R' (base + c) → (∀ id, id < base → R' id = R0 id) → a'.defers = ds → wpAnyIn (FW ro) n P .any ops Q fuel listed a' w') :
    ∀ (fuel : Nat) (listed : Array Bool) (a : Act) (w : World) (D : Nat → Nat → Prop) (R : Nat → Option (Nat × Nat × Nat)) (s : St), listed.size = ops.size → listed.toList.count false ≤ fuel → (∀ i, c ≤ i → listed.getD i false = false) →
      (∀ i k, listed.getD i false = true → bef ops i k → listed.getD k false = true) →
      SR P w0 X D R s a w → Stn ops E st0 (fun i => listed.getD i false) c s → (∀ i, listed.getD i true = false → R (base + i) = none) → Fresh R (base + c) → (∀ id, id < base → R id = R0 id) → a.defers = ds →
      wpAnyIn (FW ro) n P .any ops Q fuel listed a w := by
  have hN : ∀ k o, ops[k]? = some o → k < ops.size := fun k o hk => (Array.getElem?_eq_some_iff.1 hk).1
  have hle := h.le
  -- the end
  have fin : ∀ (fuel : Nat) (listed : Array Bool) (a : Act) (w : World) (D : Nat → Nat → Prop) (R : Nat → Option (Nat × Nat × Nat)) (s : St), listed.size = ops.size → listed.toList.count false ≤ fuel → (∀ i, c ≤ i → listed.getD i false = false) → (∀ i, i < c → listed.getD i false = true) →
      SR P w0 X D R s a w → Stn ops E st0 (fun i => listed.getD i false) c s → Fresh R (base + c) → (∀ id, id < base → R id = R0 id) → a.defers = ds → wpAnyIn (FW ro) n P .any ops Q fuel listed a w := by
    intro fuel listed a w D R s hsz hc hno hall hS hSt hF hR0 hds
    refine hend fuel listed D R s a w hsz hall hno hc hS ⟨fun x => ?_, fun id => ?_, hSt.nx, hSt.nt⟩ hF hR0 hds
    · rw [hSt.t, lastOf_congr fun i hi => ?_]
      simp only [only, hall i hi, every]
    · rw [hSt.m, lastOf_congr fun i hi => ?_]
      simp only [only, hall i hi, every]
  intro fuel
  induction fuel with
  | zero =>
    intro listed a w D R s hsz hc hno hdc hS hSt hR hF hR0 hds
    refine fin 0 listed a w D R s hsz hc hno (fun i hi => ?_) hS hSt hF hR0 hds
    have h0 : listed.toList.count false = 0 := by omega
    have := List.count_eq_zero.1 h0
    have hi' : i < listed.size := by omega
    cases hv : listed[i] with
    | true => simp [Array.getD_eq_getD_getElem?, hi', hv]
    | false => exact absurd (by rw [← hv]; simp) this
  | succ fuel ih =>
    intro listed a w D R s hsz hc hno hdc hS hSt hR hF hR0 hds
    by_cases hfull : ∀ i, i < c → listed.getD i false = true
    · exact fin (fuel + 1) listed a w D R s hsz hc hno hfull hS hSt hF hR0 hds
    refine ⟨fun hr => absurd (fun i hi => all_listed (fun k o ho => ⟨(h.row k o ho).1, (h.row k o ho).2.1⟩) hsz hr i (by omega)) hfull, fun i hi => ?_⟩
    obtain ⟨h1, o, ho, hall⟩ := mem_ready.1 hi
    have hin := hN i o ho
    have hi' : i < listed.size := by omega
    have hU : listed.getD i false = false := by
      simp [Array.getD_eq_getD_getElem?, hi'] at h1 ⊢
      exact h1
    have hpre : ∀ k, bef ops i k → listed.getD k false = true := fun k hb => by
      unfold bef at hb
      rw [(h.row i o ho).1] at hb
      obtain ⟨e, he, hbd, hk⟩ := befRow_spec _ _ hb
      have := hall e he hbd
      rcases hk with rfl | hk
      · exact this
      · exact hdc _ _ this hk
    have hic : i < c := by
      rcases Nat.lt_or_ge i c with h' | h'
      · exact h'
      · exact absurd (fun k hk => hpre k (hcut i o ho h' k hk)) hfull
    obtain ⟨e, si, hE, hsi, hdo, hacc, hb⟩ := h.each i o hic ho
    obtain ⟨ag1, ag2⟩ := h.agree hSt hdc hic ho hU hpre hsi hacc
    have hdo' := does_congr ag1 ag2 hdo
    have hb' : ∀ x, o.dst = some x → x < s.nt := by rw [hSt.nt]; exact hb
    have hsz' : (listed.setIfInBounds i true).size = ops.size := by simpa using hsz
    have hgi : ∀ d, (listed.setIfInBounds i true).getD i d = true := fun d => by simp [Array.getD_eq_getD_getElem?, hi']
    have hgk : ∀ k d, k ≠ i → (listed.setIfInBounds i true).getD k d = listed.getD k d := fun k d hk => getD_set_ne d (Ne.symm hk)
    have hc' : (listed.setIfInBounds i true).toList.count false ≤ fuel := by
      have := countA (A := listed) (i := i) (by simp [Array.getD_eq_getD_getElem?, hi'] at h1; simp [hi', h1])
      omega
    have hno' : ∀ k, c ≤ k → (listed.setIfInBounds i true).getD k false = false := fun k hk => by rw [hgk k _ (by omega)]; exact hno k hk
    have hdc' : ∀ i' k, (listed.setIfInBounds i true).getD i' false = true → bef ops i' k → (listed.setIfInBounds i true).getD k false = true := fun i' k g1 g2 => by
      by_cases e1 : k = i
      · rw [e1]; exact hgi _
      · rw [hgk k _ e1]
        by_cases e2 : i' = i
        · subst e2; exact hpre k g2
        · rw [hgk i' _ e2] at g1; exact hdc i' k g1 g2
    have hSt' : Stn ops E st0 (fun i' => (listed.setIfInBounds i true).getD i' false) c (s.app o.dst e) :=
      h.insert hSt hdc hic ho hE hU (hgi false) fun k hk => hgk k false hk
    have hR' : ∀ k, (listed.setIfInBounds i true).getD k true = false → k ≠ i ∧ listed.getD k true = false := fun k g => by
      have e1 : k ≠ i := fun e1 => by rw [e1, hgi] at g; cases g
      exact ⟨e1, by rw [hgk k _ e1] at g; exact g⟩
    have perform : evOp P S RO (base + i) o s some = some e → o.wpIn (FW ro) n P a w (wpAnyIn (FW ro) n P .any ops Q fuel (listed.setIfInBounds i true)) Q := fun hev => by
      refine evOp_sound hs hS (hR i h1) hb' hev fun D' R' e' v' w' hS2 hFr hK => ?_
      simp only [Option.some.injEq] at hK
      subst hK
      exact ih _ _ _ D' R' _ hsz' hc' hno' hdc' hS2 hSt' (fun k g => by
        obtain ⟨g1, g2⟩ := hR' k g
        rw [hFr.R (base + k) (by omega)]
        exact hR k g2) (fun id hid => by rw [hFr.R id (by omega)]; exact hF id hid) (fun id hid => (hFr.R id (by omega)).trans (hR0 id hid)) ((put_defers _ _ _).trans hds)
    have pass : e = ⟨.tup [], none⟩ → (∀ f, o.about P w a.eval = some f → (FW ro).fn f) ∧ wpAnyIn (FW ro) n P .any ops Q fuel (listed.setIfInBounds i true) (a.put o.dst undef) w := fun he => by
      refine ⟨fun _ _ => trivial, ih _ _ _ D R (s.app o.dst e) hsz' hc' hno' hdc' ?_ hSt' (fun k g => hR k (hR' k g).2) hF hR0 ((put_defers _ _ _).trans hds)⟩
      rw [he]
      exact hS.put hb' VR_undef
    unfold wpOpIn
    simp only [ho]
    rcases hdo' with ⟨hg, hev⟩ | ⟨g, want, tg, hg, htg, hcase⟩
    · rw [if_pos (by simp [Region.wanted, hg])]
      exact perform hev
    · have hv := hS.tmp tg
      rcases hcase with ⟨hx, hev⟩ | ⟨hx, he⟩
      · rw [hx] at hv
        have hb2 := getD_bool hv.bool_inv
        rw [if_pos (by simp [Region.wanted, hg, yielded, htg, hb2])]
        exact perform hev
      · rw [if_neg ?_]
        · exact pass he
        · rcases hx with hx | hx
          · rw [hx] at hv
            have hb2 := getD_bool hv.bool_inv
            cases want <;> simp [Region.wanted, hg, yielded, htg, hb2]
          · rw [hx] at hv
            have hy : yielded ops a.tmps g = none := by
              generalize hq : a.tmps.getD tg Go.undef = q at hv
              cases hv with
              | tup h1 _ =>
                simp only [yielded, htg, Option.bind_some]
                rw [Array.getD_eq_getD_getElem?] at hq
                cases ht : a.tmps[tg]? with
                | none => rfl
                | some z => rw [ht] at hq; simp at hq; subst hq; rfl
            simp [Region.wanted, hg, hy]

theorem wpAny_chain {ops : Array Oper} : ∀ (m c : Nat) (fuel : Nat) (listed : Array Bool) (a : Act) (w : World), c + m = ops.size → m ≤ fuel → (∀ k o, ops[k]? = some o → (befs ops).getD k 0 = befRow (befs ops) o ∧ (befs ops).getD k 0 < 2 ^ k) →
    (∀ j o, ops[j]? = some o → c ≤ j → ∀ i, i < j → bef ops j i) → listed.size = ops.size → (∀ i, i < c → listed.getD i false = true) → (∀ i, c ≤ i → listed.getD i false = false) →
    wpOpsIn (FW ro) n P ops Q (List.range' c m) a w → wpAnyIn (FW ro) n P .any ops Q fuel listed a w
  | 0, c, fuel, listed, a, w, hc, _, hrow, hb, hsz, h1, h2, h => by
    refine wpAnyIn_done ?_ h fuel
    cases hr : Region.ready .any ops listed with
    | nil => rfl
    | cons i l =>
      have hm : i ∈ Region.ready .any ops listed := by rw [hr]; simp
      obtain ⟨g1, o, g2, _⟩ := mem_ready.1 hm
      have hi := (Array.getElem?_eq_some_iff.1 g2).1
      have := h1 i (by omega)
      have hi' : i < listed.size := by omega
      simp [Array.getD_eq_getD_getElem?, hi'] at g1 this
      rw [g1] at this; cases this
  | m + 1, c, 0, listed, a, w, hc, hf, _, _, _, _, _, _ => by omega
  | m + 1, c, fuel + 1, listed, a, w, hc, hf, hrow, hb, hsz, h1, h2, h => by
    have hsz' : (listed.setIfInBounds c true).size = ops.size := by simpa using hsz
    have hcl : c < listed.size := by omega
    refine ⟨fun hr => ?_, fun i hi => ?_⟩
    · have := all_listed hrow hsz hr c (by omega)
      rw [h2 c (Nat.le_refl _)] at this; cases this
    · obtain ⟨g1, o, ho, hall⟩ := mem_ready.1 hi
      have hin := (Array.getElem?_eq_some_iff.1 ho).1
      have hi' : i < listed.size := by omega
      have hic : c ≤ i := by
        rcases Nat.lt_or_ge i c with h' | h'
        · have := h1 i h'
          simp [Array.getD_eq_getD_getElem?, hi'] at g1 this
          rw [g1] at this; cases this
        · exact h'
      have e : i = c := by
        rcases Nat.lt_or_ge c i with h' | h'
        · exfalso
          have hbb := hb i o ho hic
          -- some binding edge leads to one that is not listed
          have : ∀ k, bef ops i k → k < c ∨ ∃ e, e ∈ o.after ∧ Region.binds .any e = true ∧ c ≤ e.on := fun k hk => by
            unfold bef at hk
            rw [(hrow i o ho).1] at hk
            obtain ⟨e, he, hbd, hk⟩ := befRow_spec _ _ hk
            rcases Nat.lt_or_ge e.on c with h3 | h3
            · left
              rcases hk with rfl | hk
              · exact h3
              · have ho2 : ops[e.on]? = some (ops[e.on]'(by omega)) := by simp
                have := bit_lt (hrow e.on _ ho2).2 hk
                omega
            · exact .inr ⟨e, he, hbd, h3⟩
          rcases this c (hbb c h') with h3 | ⟨e, he, hbd, h3⟩
          · omega
          · have := hall e he hbd
            rw [h2 e.on h3] at this; cases this
        · omega
      subst e
      rw [List.range'_succ, wpOpsIn_cons] at h
      refine wpOpIn_mono (fun a' w' h' => wpAny_chain m (i + 1) fuel _ a' w' (by omega) (by omega) hrow (fun j o hj hcj => hb j o hj (by omega)) hsz' (fun k hk => ?_) (fun k hk => ?_) h') h
      · by_cases ek : k = i
        · subst ek; simp [Array.getD_eq_getD_getElem?, hcl]
        · rw [getD_set_ne false (Ne.symm ek)]; exact h1 k (by omega)
      · rw [getD_set_ne false (by omega)]; exact h2 k (by omega)

theorem region_cut (hs : SpecOK P S) (hm : P.follows .mixedOrders = true) {ops : Array Oper} {base id c : Nat} {K : St → Option ρ} {r : ρ} (hd : drawOK ops = true) (hle : c ≤ ops.size)
    (hcut : ∀ j o, ops[j]? = some o → c ≤ j → ∀ i, i < j → bef ops j i) (h : SR P w0 X D R st a w) (hf : Fresh R base)
    (he : evOps P S RO ops base (chkOf ops true base) (ops.toList.take c) 0 st K = some r)
    (hn : ∀ D' R' st' a' w', SR P w0 X D' R' st' a' w' → Fresh R' (base + c) → (∀ id, id < base → R' id = R id) → a'.defers = a.defers → st'.nx = st.nx → st'.nt = st.nt → K st' = some r →
      wpOpsIn (FW ro) n P ops Q (List.range' c (ops.size - c)) a' w') :
    (Code.region id ops true).wpIn (FW ro) n P Q a w := by
  have h0 : Stn ops [] st every 0 st := ⟨fun _ => rfl, fun _ => rfl, rfl, rfl⟩
  obtain ⟨E, h2, h3, s, h4, h5⟩ := evOps_path_take hle h0 he
  have hrow : ∀ k o, ops[k]? = some o → _ := fun k o ho => drawRows_spec ops.toList 0 (fun i => by simp) hd k o (Nat.zero_le _) ho
  have hp : PathOK P S RO ops base st E c := ⟨hle, h2, hrow, fun i o hi ho => h3 i o hi ho⟩
  refine wpIn_region_any hm (evAny_sound hs (R0 := R) hp (fun j o hj hcj i hi => hcut j o hj hcj i (by omega)) a.defers (fun fuel listed D' R' s' a' w' hsz hall hno hcnt hS hSt hF hR0 hds => ?_) ops.size _ a _ D R st (by simp) (by simp) (fun i _ => ?_) (fun i k hi _ => ?_) (h.world ⟨rfl, rfl, rfl, Nat.le_refl _, fun _ _ => rfl⟩) ?_ (fun i _ => hf _ (by omega)) (fun id hid => hf id (by omega)) (fun _ _ => rfl) rfl)
  · refine wpAny_chain (ops.size - c) c fuel listed a' w' (by omega) ?_ (fun k o ho => ⟨(hrow k o ho).1, (hrow k o ho).2.1⟩) hcut hsz hall hno ?_
    · have : ∀ (l : List Bool) (c : Nat), (∀ i, c ≤ i → l.getD i false = false) → l.length - c ≤ l.count false := by
        intro l
        induction l with
        | nil => intro c _; simp
        | cons b l ih =>
          intro c h
          cases c with
          | zero =>
            have hb := h 0 (Nat.le_refl _)
            simp at hb
            subst hb
            have := ih 0 (fun i hi => by have := h (i + 1) (by omega); simpa using this)
            simp at this ⊢; omega
          | succ c =>
            have := ih c (fun i hi => by have := h (i + 1) (by omega); simpa using this)
            have h2 : l.count false ≤ (b :: l).count false := by rw [List.count_cons]; omega
            simp only [List.length_cons]; omega
      have := this listed.toList c (fun i hi => by have := hno i hi; simpa [Array.getD_eq_getD_getElem?, List.getD_eq_getElem?_getD] using this)
      rw [Array.length_toList, hsz] at this
      omega
    · exact hn D' R' s a' w' (Eqv.sr ⟨fun x => by rw [hSt.t, h4.t], fun x => by rw [hSt.m, h4.m], hSt.nx.trans h4.nx.symm, hSt.nt.trans h4.nt.symm⟩ hS) hF hR0 hds h4.nx h4.nt h5
  · simp [Array.getD_eq_getD_getElem?, Array.getElem?_replicate]
    split <;> simp
  · simp [Array.getD_eq_getD_getElem?, Array.getElem?_replicate] at hi
    split at hi <;> simp at hi
  · refine ⟨fun x => ?_, fun x => ?_, rfl, rfl⟩
    · rw [lastOf_upto (j := 0) (Nat.zero_le _) fun i _ hi => ?_]
      · rfl
      · simp [only, Array.getElem?_replicate]; split <;> simp
    · rw [lastOf_upto (j := 0) (Nat.zero_le _) fun i _ hi => ?_]
      · rfl
      · simp [only, Array.getElem?_replicate]; split <;> simp

end Go.Ev

set_option linter.unusedVariables false
set_option linter.unusedSimpArgs false
namespace Go.Ev
open Go Go.RowKit

variable {P : Program} {w0 : Base} {X D : Nat → Nat → Prop} {R : Nat → Option (Nat × Nat × Nat)} {st : St} {a : Act} {w : World}
variable {ro : Option Nat} {n : Nat} {Q : Exit → Act → World → Prop} {ρ : Type} {S : Spec} {RO : Nat → Bool} {L : LSpec} 

theorem keepV_sound {nb : Nat} {R' : Nat → Option (Nat × Nat × Nat)} (hR : ∀ id y, id < nb → R id = some y → R' id = some y) {x : AV} {v : Value} (h : VR P D R w x v) : VR P D R' w (keepV P nb x) v := by
  unfold keepV
  split
  · rename_i id e es
    cases hno : noOth P 8 e with
    | false => exact .u
    | true =>
      cases h with
      | gv h1 hz h2 h3 h4 h5 h6 h7 h8 => exact .rs h1 hz h2 h3 h4 h5 h6 (flat_es hno h3 h5 h7)
      | gv0 => exact .rs0 fun _ => rfl
  · cases hf : free P nb x with
    | false => exact .u
    | true => exact h.free_any hR hf
theorem keepB_any (nb : Nat) (b : Blk) : keepB P nb b = .dead ∨ (keepB P nb b = b ∧ freeB P nb b = true) := by
  unfold keepB
  cases hf : freeB P nb b
  · exact .inl rfl
  · exact .inr ⟨rfl, rfl⟩
theorem gm_range (f : Nat → Blk) (nb id : Nat) : gm ((List.range nb).map fun id => (id, f id)) id = if id < nb then f id else .dead := by
  have : ∀ (ids : List Nat), gm (ids.map fun id => (id, f id)) id = if id ∈ ids then f id else .dead := by
    intro ids
    induction ids with
    | nil => simp [gm]
    | cons k ids ih =>
      simp only [List.map_cons, gm_cons]
      by_cases e : id = k
      · subst e; simp
      · simp [e, ih]
  rw [this]
  simp
theorem grows_sound (h : SR P w0 X D R st a w) {e : TypeId} {v : AV} {u : Value} {src : Option Nat} {es : List (List AV)} (hv : VR P D R w v u) (hg : grows st e v = some (src, es)) :
    (src = none ∧ es = [] ∧ ∃ ad, u = .slice ad 0 0) ∨ ∃ id, src = some id ∧ gm st.m id = .fr e ∧ VR P D R w (.gv id e es) u := by
  unfold grows at hg
  split at hg <;> first | (cases hg; done) | skip
  · cases hg
    cases hv
    exact .inl ⟨rfl, rfl, _, rfl⟩
  · obtain ⟨h1, hg1⟩ := cond_some hg
    split at hg1 <;> first | (cases hg1; done) | skip
    rename_i e2 hm
    obtain ⟨h2, hg2⟩ := cond_some hg1
    have h3 := Nat.eq_of_beq_eq_true h1
    have h4 := Nat.eq_of_beq_eq_true h2
    subst h3
    subst h4
    simp only [Option.some.injEq, Prod.mk.injEq] at hg2
    obtain ⟨rfl, rfl⟩ := hg2
    exact .inr ⟨_, rfl, hm, hv⟩
theorem movesTo_sound {nb : Nat} {e : TypeId} {v : AV} {id : Nat} {cs : List AV} (h : movesTo P nb st e v = some (id, cs)) : v = .p id 0 0 ∧ nb ≤ id ∧ gm st.m id = .row e [cs] ∧ freeB P nb (.row e [cs]) = true := by
  unfold movesTo at h
  split at h <;> first | (cases h; done) | skip
  rename_i id'
  obtain ⟨h1, h2⟩ := cond_some h
  clear h
  split at h2 <;> first | (cases h2; done) | skip
  rename_i e' cs' hm
  obtain ⟨h3, h4⟩ := cond_some h2
  obtain ⟨h5, h6⟩ := Bool.and_eq_true_iff.1 h3
  have h7 := Nat.eq_of_beq_eq_true h5
  subst h7
  simp only [Option.some.injEq, Prod.mk.injEq] at h4
  obtain ⟨rfl, rfl⟩ := h4
  exact ⟨rfl, Nat.le_of_ble_eq_true h1, hm, h6⟩
theorem notIn_spec {src : List (Option Nat)} {id j : Nat} (h : notIn src id = true) (hj : src[j]? = some (some id)) : False := by
  unfold notIn at h
  simp only [Bool.not_eq_true', List.any_eq_false] at h
  have := h (some id) (List.mem_of_getElem? hj)
  simp at this
theorem keeps_sound (h : SR P w0 X D R st a w) {u : Nat → Value} (hu : ∀ t, VR P D R w (gx st t) (u t)) {nb : Nat} : ∀ (l : List (Nat × Option TypeId)) (hh : Nat) {k : Kept}, keeps P nb st l hh = some k →
    k.nx = hh + k.src.length ∧
    (∀ (i : Nat) (s : Option Nat), k.src[i]? = some s → (∃ e, (∀ m0, gm (k.m ++ m0) (hh + i) = .fr e) ∧ okT P e = true ∧ ∀ id, s = some id → gm st.m id = .fr e) ∨
      ∃ id e cs, s = some id ∧ nb ≤ id ∧ (∀ m0, gm (k.m ++ m0) (hh + i) = .row e [cs]) ∧ gm st.m id = .row e [cs] ∧ freeB P nb (.row e [cs]) = true) ∧
    (∀ id m0, (id < hh ∨ k.nx ≤ id) → gm (k.m ++ m0) id = gm m0 id) ∧
    (∀ (i j s : Nat), k.src[i]? = some (some s) → k.src[j]? = some (some s) → i = j) ∧
    ∀ R' : Nat → Option (Nat × Nat × Nat), (∀ id, id < nb → R' id = R id) → (∀ (i s : Nat), k.src[i]? = some (some s) → R' (hh + i) = R s) → (∀ (i : Nat), k.src[i]? = some none → R' (hh + i) = some (0, 0, 0)) →
      ∀ t, VR P D R' w (gt k.t t) (u t)
  | [], hh, k, hk => by
    simp only [keeps, Option.some.injEq] at hk
    subst hk
    exact ⟨by simp, fun i s hs => by simp at hs, fun _ _ _ => rfl, fun i j s hs => by simp at hs, fun R' _ _ _ t => by simp only [gt]; exact .u⟩
  | (t0, none) :: l, hh, k, hk => by
    simp only [keeps] at hk
    split at hk <;> first | (cases hk; done) | skip
    rename_i k1 hk1
    cases hk
    obtain ⟨g1, g2, g3, g4, g5⟩ := keeps_sound h hu l hh hk1
    refine ⟨g1, g2, g3, g4, fun R' hR h1 h2 t => ?_⟩
    simp only [gt_cons]
    split
    · rename_i e; subst e; exact keepV_sound (fun id y hid e => (hR id hid).trans e) (hu t)
    · exact g5 R' hR h1 h2 t
  | (t0, some e) :: l, hh, k, hk => by
    simp only [keeps] at hk
    split at hk
    · rename_i id cs k1 hmv hk1
      obtain ⟨hd, hk⟩ := cond_some hk
      cases hk
      obtain ⟨g1, g2, g3, g4, g5⟩ := keeps_sound h hu l (hh + 1) hk1
      obtain ⟨v1, v2, v3, v4⟩ := movesTo_sound hmv
      refine ⟨by simp only [List.length_cons]; omega, fun i s hi => ?_, fun id m0 hid => ?_, fun i j s hi hj => ?_, fun R' hR h1 h2 t => ?_⟩
      · cases i with
        | zero =>
          simp only [List.getElem?_cons_zero, Option.some.injEq] at hi
          subst hi
          exact .inr ⟨id, e, cs, rfl, v2, fun m0 => by simp [gm_cons], v3, v4⟩
        | succ i =>
          have sh : ∀ m0, gm (((hh, .row e [cs]) :: k1.m) ++ m0) (hh + (i + 1)) = gm (k1.m ++ m0) (hh + 1 + i) := fun m0 => by
            simp only [List.cons_append, gm_cons]
            rw [if_neg (by omega), show hh + (i + 1) = hh + 1 + i by omega]
          rcases g2 i s (by simpa using hi) with ⟨e', q1, q2⟩ | ⟨id', e', cs', q0, q1, q2, q3⟩
          · exact .inl ⟨e', fun m0 => (sh m0).trans (q1 m0), q2⟩
          · exact .inr ⟨id', e', cs', q0, q1, fun m0 => (sh m0).trans (q2 m0), q3⟩
      · simp only [List.cons_append, gm_cons]
        have hx : k1.nx = hh + 1 + k1.src.length := g1
        rw [if_neg (by simp only at hid; omega)]
        exact g3 id m0 (by simp only at hid; omega)
      · cases i with
        | zero =>
          cases j with
          | zero => rfl
          | succ j => exact (notIn_spec hd (by simp at hi; subst hi; simpa using hj)).elim
        | succ i =>
          cases j with
          | zero => exact (notIn_spec hd (by simp at hj; subst hj; simpa using hi)).elim
          | succ j => rw [g4 i j s (by simpa using hi) (by simpa using hj)]
      · simp only [gt_cons]
        split
        · rename_i e; subst e
          have hR' : R' hh = R id := by have := h1 0 id (by simp); simpa using this
          have hv := hu t
          rw [v1] at hv
          generalize u t = u at hv
          cases hv with
          | p q => exact .p (hR'.trans q)
        · refine g5 R' hR (fun i s hi => ?_) (fun i hi => ?_) t
          · have := h1 (i + 1) s (by simpa using hi)
            rwa [show hh + (i + 1) = hh + 1 + i by omega] at this
          · have := h2 (i + 1) (by simpa using hi)
            rwa [show hh + (i + 1) = hh + 1 + i by omega] at this
    split at hk <;> first | (cases hk; done) | skip
    rename_i src es k1 hgr hk1
    obtain ⟨hc, hk⟩ := cond_some hk
    obtain ⟨ho, hd⟩ := Bool.and_eq_true_iff.1 hc
    obtain ⟨ho, hno⟩ := Bool.and_eq_true_iff.1 ho
    cases hk
    obtain ⟨g1, g2, g3, g4, g5⟩ := keeps_sound h hu l (hh + 1) hk1
    have hs := grows_sound h (hu t0) hgr
    refine ⟨by simp only [List.length_cons]; omega, fun i s hi => ?_, fun id m0 hid => ?_, fun i j s hi hj => ?_, fun R' hR h1 h2 t => ?_⟩
    · cases i with
      | zero =>
        simp only [List.getElem?_cons_zero, Option.some.injEq] at hi
        subst hi
        refine .inl ⟨e, fun m0 => by simp [gm_cons], ho, fun id hid => ?_⟩
        rcases hs with ⟨q, _⟩ | ⟨id', q1, q2, _⟩
        · rw [q] at hid; cases hid
        · rw [q1] at hid
          cases hid
          exact q2
      | succ i =>
        have sh : ∀ m0, gm (((hh, .fr e) :: k1.m) ++ m0) (hh + (i + 1)) = gm (k1.m ++ m0) (hh + 1 + i) := fun m0 => by
          simp only [List.cons_append, gm_cons]
          rw [if_neg (by omega), show hh + (i + 1) = hh + 1 + i by omega]
        rcases g2 i s (by simpa using hi) with ⟨e', q1, q2⟩ | ⟨id', e', cs', q0, q1, q2, q3⟩
        · exact .inl ⟨e', fun m0 => (sh m0).trans (q1 m0), q2⟩
        · exact .inr ⟨id', e', cs', q0, q1, fun m0 => (sh m0).trans (q2 m0), q3⟩
    · simp only [List.cons_append, gm_cons]
      have hx : k1.nx = hh + 1 + k1.src.length := g1
      rw [if_neg (by simp only at hid; omega)]
      exact g3 id m0 (by simp only at hid; omega)
    · have notin : ∀ j s, src = some s → k1.src[j]? = some (some s) → False := fun j s e1 e2 => by
        subst e1
        exact notIn_spec hd e2
      cases i with
      | zero =>
        cases j with
        | zero => rfl
        | succ j => exact (notin j s (by simpa using hi) (by simpa using hj)).elim
      | succ i =>
        cases j with
        | zero => exact (notin i s (by simpa using hj) (by simpa using hi)).elim
        | succ j => rw [g4 i j s (by simpa using hi) (by simpa using hj)]
    · simp only [gt_cons]
      split
      · rename_i e; subst e
        rcases hs with ⟨q1, rfl, ad, q3⟩ | ⟨id', q1, q2, q3⟩
        · rw [q3]
          exact .gv0 (by have := h2 0 (by simp [q1]); simpa using this)
        · have hR' : R' hh = R id' := by have := h1 0 id' (by simp [q1]); simpa using this
          generalize u t = u at q3
          cases q3 with
          | gv0 q => exact .gv0 (hR'.trans q)
          | gv a1 a2 a3 a4 a5 a6 a7 a8 a9 => exact .gv a1 a2 a3 a4 a5 a6 a7 (flat_es hno a4 a6 a8) (hR'.trans a9)
      · refine g5 R' hR (fun i s hi => ?_) (fun i hi => ?_) t
        · have := h1 (i + 1) s (by simpa using hi)
          rwa [show hh + (i + 1) = hh + 1 + i by omega] at this
        · have := h2 (i + 1) (by simpa using hi)
          rwa [show hh + (i + 1) = hh + 1 + i by omega] at this
theorem gt_hide : ∀ (l : List (Nat × AV)) (t : Nat), gt (l.map hide) t = cond (Nat.ble 1000000 t) .u (gt l t)
  | [], t => by cases h : Nat.ble 1000000 t <;> simp [gt]
  | (k, v) :: l, t => by
    simp only [List.map_cons, hide, gt_cons]
    split
    · rename_i e; subst e; rfl
    · exact gt_hide l t
noncomputable def uv (R : Nat → Option (Nat × Nat × Nat)) (a : Act) (w : World) (t : Nat) : Value := match vcell t with
  | none => a.tmps.getD t undef
  | some (id, j) => match R id with
    | some (b, _) => (w.cell? ⟨b, j, none⟩).getD undef
    | none => undef
theorem gx_ok (h : SR P w0 X D R st a w) (t : Nat) : VR P D R w (gx st t) (uv R a w t) := by
  unfold gx uv
  cases hv : vcell t with
  | none => exact h.tmp t
  | some p =>
    obtain ⟨id, j⟩ := p
    dsimp only
    split
    · rename_i e cs hm
      have hrow := h.mem id
      rw [hm] at hrow
      obtain ⟨b, cells, ty, g1, g2, g3, g4, g5, g6, g7⟩ := hrow (by simp)
      by_cases hj : j < P.cellsOf e
      · obtain ⟨v, q1, q2⟩ := g7 0 j (by simp) hj
        rw [g1]
        dsimp only
        have : w.cell? ⟨b, j, none⟩ = some v := by
          simp only [Nat.zero_mul, Nat.zero_add] at q1
          simp [World.cell?, g2, q1]
        rw [this]
        exact q2
      · have hl := g6 cs (by simp)
        have : cs.getD j .u = .u := by
          rw [List.getD_eq_getElem?_getD, List.getElem?_eq_none (by omega)]; rfl
        rw [this]
        exact .u
    · exact .u
theorem virt_gt {id j : Nat} {v : AV} : ∀ {l : List (Nat × AV)}, virt id l = some (j, v) → ∃ t, vcell t = some (id, j) ∧ gt l t = v
  | (k, x) :: l, h => by
    simp only [virt] at h
    cases hk : vcell k with
    | none =>
      rw [hk] at h
      obtain ⟨t, h1, h2⟩ := virt_gt (l := l) h
      refine ⟨t, h1, ?_⟩
      rw [gt_cons, if_neg (fun e => by rw [e, hk] at h1; cases h1)]
      exact h2
    | some p =>
      obtain ⟨id', j'⟩ := p
      rw [hk] at h
      dsimp only at h
      cases hb : Nat.beq id id' with
      | true =>
        rw [hb] at h
        have := Nat.eq_of_beq_eq_true hb
        subst this
        simp only [cond_true, Option.some.injEq, Prod.mk.injEq] at h
        obtain ⟨rfl, rfl⟩ := h
        exact ⟨k, hk, by rw [gt_cons, if_pos rfl]⟩
      | false =>
        rw [hb] at h
        obtain ⟨t, h1, h2⟩ := virt_gt (l := l) h
        refine ⟨t, h1, ?_⟩
        rw [gt_cons, if_neg (fun e => by
          rw [e, hk] at h1
          simp only [Option.some.injEq, Prod.mk.injEq] at h1
          rw [h1.1, Nat.beq_refl] at hb
          cases hb)]
        exact h2
theorem keepC_any (nb : Nat) (kt : List (Nat × AV)) (id : Nat) (b : Blk) : keepC P nb kt id b = .dead ∨ (keepC P nb kt id b = b ∧ freeB P nb b = true) ∨
    ∃ e cs j v, virt id kt = some (j, v) ∧ b = .lrow e [cs] ∧ keepC P nb kt id b = .lrow e [cs.set j v] ∧ j < cs.length ∧ freeB P nb (.lrow e [cs.set j .nl]) = true := by
  unfold keepC
  split
  · rename_i j v e cs hv
    cases hc : (freeB P nb (.lrow e [cs.set j .nl]) && Nat.blt j cs.length) with
    | false => exact .inl rfl
    | true =>
      obtain ⟨h1, h2⟩ := Bool.and_eq_true_iff.1 hc
      exact .inr (.inr ⟨e, cs, j, v, hv, rfl, rfl, by simpa [Nat.blt_eq] using h2, h1⟩)
  · rcases keepB_any (P := P) nb _ with e | e
    · exact .inl e
    · exact .inr (.inl e)
theorem keepC_fr {nb : Nat} {kt : List (Nat × AV)} {id : Nat} {b : Blk} {e : TypeId} : keepC P nb kt id b ≠ .fr e := fun he => by
  rcases keepC_any (P := P) nb kt id b with e1 | ⟨e1, hf⟩ | ⟨e1, cs, j, v, _, e3, e2, _, _⟩
  · rw [e1] at he; cases he
  · rw [e1] at he; rw [he] at hf; simp [freeB] at hf
  · rw [e2] at he; cases he
theorem norm_sound {keep : List (Nat × Option TypeId)} {nb : Nat} {st' : St} (h : SR P w0 X D R st a w) (hn : norm P keep nb st = some st') (hK : st'.nx ≠ nb → ∀ i j, nb ≤ i → w0.K i → w0.K j) :
    ∃ R', SR P w0 X D R' st' a w ∧ Fresh R' st'.nx ∧ nb ≤ st'.nx ∧ st'.nt = st.nt ∧ (∀ id, id < nb → R' id = R id) := by
  unfold norm at hn
  obtain ⟨hc, hn⟩ := cond_some hn
  split at hn <;> first | (cases hn; done) | skip
  rename_i k hk
  simp only [Option.some.injEq] at hn
  subst hn
  obtain ⟨g1, g2, g3, g4, g5⟩ := keeps_sound h (gx_ok h) keep nb hk
  obtain ⟨R', hR'⟩ : ∃ R' : Nat → Option (Nat × Nat × Nat), ∀ id, R' id = if id < nb then R id else match k.src[id - nb]? with
    | some (some s) => R s
    | some none => some (0, 0, 0)
    | none => none := ⟨_, fun _ => rfl⟩
  have r1 : ∀ id, id < nb → R' id = R id := fun id hid => by rw [hR', if_pos hid]
  have r2 : ∀ i s, k.src[i]? = some (some s) → R' (nb + i) = R s := fun i s hs => by
    rw [hR', if_neg (by omega), show nb + i - nb = i by omega, hs]
  have r3 : ∀ i, k.src[i]? = some none → R' (nb + i) = some (0, 0, 0) := fun i hs => by
    rw [hR', if_neg (by omega), show nb + i - nb = i by omega, hs]
  have r4 : ∀ id, nb + k.src.length ≤ id → R' id = none := fun id hid => by
    rw [hR', if_neg (by omega), List.getElem?_eq_none (by omega)]
  -- which rows there are
  have rows : ∀ id, (id < nb ∧ gm (k.m ++ (List.range nb).map fun id => (id, keepC P nb k.t id (gm st.m id))) id = keepC P nb k.t id (gm st.m id)) ∨
      (∃ i s e, id = nb + i ∧ k.src[i]? = some s ∧ gm (k.m ++ (List.range nb).map fun id => (id, keepC P nb k.t id (gm st.m id))) id = .fr e ∧ okT P e = true ∧ ∀ j, s = some j → gm st.m j = .fr e) ∨
      (∃ i j e cs, id = nb + i ∧ k.src[i]? = some (some j) ∧ gm (k.m ++ (List.range nb).map fun id => (id, keepC P nb k.t id (gm st.m id))) id = .row e [cs] ∧ nb ≤ j ∧ gm st.m j = .row e [cs] ∧ freeB P nb (.row e [cs]) = true) ∨
      (nb + k.src.length ≤ id ∧ gm (k.m ++ (List.range nb).map fun id => (id, keepC P nb k.t id (gm st.m id))) id = .dead) := fun id => by
    by_cases h1 : id < nb
    · left
      refine ⟨h1, ?_⟩
      rw [g3 id _ (.inl h1), gm_range, if_pos h1]
    · by_cases h2 : id - nb < k.src.length
      · right
        have hg2 := g2 (id - nb) _ (List.getElem?_eq_getElem h2)
        rcases hg2 with ⟨e, q1, q2, q3⟩ | ⟨j, e, cs, q0, q1, q2, q3, q4⟩
        · left
          refine ⟨id - nb, _, e, by omega, List.getElem?_eq_getElem h2, ?_, q2, q3⟩
          have := q1 ((List.range nb).map fun id => (id, keepC P nb k.t id (gm st.m id)))
          rwa [show nb + (id - nb) = id by omega] at this
        · right; left
          refine ⟨id - nb, j, e, cs, by omega, by rw [List.getElem?_eq_getElem h2, q0], ?_, q1, q3, q4⟩
          have := q2 ((List.range nb).map fun id => (id, keepC P nb k.t id (gm st.m id)))
          rwa [show nb + (id - nb) = id by omega] at this
      · right; right; right
        refine ⟨by omega, ?_⟩
        rw [g3 id _ (.inr (by omega)), gm_range, if_neg h1]
  have kb : ∀ {id : Nat}, alive (keepC P nb k.t id (gm st.m id)) = true → alive (gm st.m id) = true ∧ (∀ s o, owns P (keepC P nb k.t id (gm st.m id)) s o ↔ owns P (gm st.m id) s o) ∧ ∀ e, gm st.m id ≠ .fr e := fun {id} ha => by
    rcases keepC_any (P := P) nb k.t id (gm st.m id) with e | ⟨e, hf⟩ | ⟨e, cs, j, v, _, e1, e2, _, _⟩
    · rw [e] at ha; cases ha
    · rw [e] at ha ⊢
      exact ⟨ha, fun _ _ => Iff.rfl, fun e' he => by rw [he] at hf; simp [freeB] at hf⟩
    · rw [e2, e1]
      exact ⟨rfl, fun _ _ => Iff.rfl, fun e' he => by cases he⟩
  have kf : ∀ {id : Nat} {e : TypeId}, keepC P nb k.t id (gm st.m id) ≠ .fr e := fun {id e} he => by
    rcases keepC_any (P := P) nb k.t id (gm st.m id) with e1 | ⟨e1, hf⟩ | ⟨e1, cs, j, v, _, e3, e2, _, _⟩
    · rw [e1] at he; cases he
    · rw [e1] at he; rw [he] at hf; simp [freeB] at hf
    · rw [e2] at he; cases he
  have fresh_real : ∀ {id b s}, R' id = some (b, s) → s ≠ (0, 0) → ∃ j, R j = some (b, s) := fun {id b s} e hs => by
    rw [hR'] at e
    split at e
    · exact ⟨id, e⟩
    · split at e
      · exact ⟨_, e⟩
      · simp only [Option.some.injEq, Prod.mk.injEq] at e
        exact absurd (by rw [← e.2]) hs
      · cases e
  refine ⟨R', ⟨fun t => ?_, h.nt, fun id => ?_, fun id b s e hs => ?_, fun id b s et o e hs hm => ?_, fun id b s o e ho => ?_, fun id id' b s s' e e' hs hs' ha ha' => ?_, fun id b s e ho => ?_, h.X, h.lt, h.old, h.df⟩, fun id hid => r4 id (by simp only at hid; omega), by simp only; omega, rfl, r1⟩
  · show VR P D R' w (gt (k.t.map hide) t) _
    rw [gt_hide]
    cases ht : Nat.ble 1000000 t with
    | true => exact .u
    | false =>
      have := g5 R' r1 r2 r3 t
      have hv : vcell t = none := by unfold vcell; rw [ht]; rfl
      unfold uv at this
      rw [hv] at this
      exact this
  · rcases rows id with ⟨h1, h2⟩ | ⟨i, s, e, rfl, h1, h2, h3, h4⟩ | ⟨i, j, e, cs, rfl, h1, h2, h3, h4, h5⟩ | ⟨h1, h2⟩
    · rw [h2]
      rcases keepC_any (P := P) nb k.t id (gm st.m id) with e | ⟨e, hfb⟩ | ⟨e, cs, j, v, hv, e1, e2, hj, hfb⟩
      · rw [e]; trivial
      · rw [e]
        exact (h.mem id).free (fun i y hi e => (r1 i hi).trans e) (fun y e => (r1 id h1).trans e) hfb
      · rw [e2]
        have hrow := h.mem id
        rw [e1] at hrow
        obtain ⟨b, cells, ty, q1, q2, q3, q4, q5, q6, q7⟩ := hrow (by simp)
        refine fun _ => ⟨b, cells, ty, (r1 id h1).trans q1, q2, q3, q4, q5, fun x hx => ?_, fun i jj hi hjj => ?_⟩
        · simp only [List.mem_singleton] at hx
          rw [hx, List.length_set]
          exact q6 cs (by simp)
        · have hi0 : i = 0 := by simpa using hi
          subst hi0
          obtain ⟨x, x1, x2⟩ := q7 0 jj (by simp) hjj
          refine ⟨x, x1, ?_⟩
          show VR P D R' w ((cs.set j v).getD jj .u) x
          rw [List.getD_eq_getElem?_getD, List.getElem?_set]
          by_cases hjj2 : j = jj
          · subst hjj2
            rw [if_pos rfl, if_pos hj]
            obtain ⟨tt, t1, t2⟩ := virt_gt hv
            have := g5 R' r1 r2 r3 tt
            rw [t2] at this
            unfold uv at this
            rw [t1] at this
            dsimp only at this
            rw [q1] at this
            dsimp only at this
            have hc : w.cell? ⟨b, j, none⟩ = some x := by
              simp only [Nat.zero_mul, Nat.zero_add] at x1
              simp [World.cell?, q2, x1]
            rw [hc] at this
            exact this
          · rw [if_neg hjj2, ← List.getD_eq_getElem?_getD]
            have x2 : VR P D R w (cs.getD jj .u) x := x2
            have hl := q6 cs (by simp)
            have hf := freeL_at (P := P) (nb := nb) (l := cs.set j .nl) (by simpa [freeB] using hfb) (k := jj) (by rw [List.length_set, hl, q3]; exact hjj)
            have e3 : (cs.set j AV.nl).getD jj .u = cs.getD jj .u := by
              rw [List.getD_eq_getElem?_getD, List.getElem?_set, if_neg hjj2, ← List.getD_eq_getElem?_getD]
            rw [e3] at hf
            exact x2.free_any (fun i y hi e => (r1 i hi).trans e) hf
    · rw [h2]
      obtain ⟨o1, o2, _⟩ := okT_spec h3
      cases s with
      | none => exact ⟨o2, o1, 0, 0, 0, r3 i h1, .inl ⟨rfl, rfl⟩⟩
      | some j =>
        obtain ⟨q1, q2, b, c, n, q3, q4⟩ := (by simpa [h4 j rfl] using h.mem j : RowOK P D R w j (.fr e))
        exact ⟨q1, q2, b, c, n, (r2 i j h1).trans q3, q4⟩
    · rw [h2, ← h4]
      exact (h.mem j).free (fun i y hi e => (r1 i hi).trans e) (fun y e => (r2 i j h1).trans e) (by rw [h4]; exact h5)
    · rw [h2]; trivial
  · obtain ⟨j, hj⟩ := fresh_real e hs
    rcases rows id with ⟨h1, h2⟩ | ⟨i, s', e', rfl, h1, h2, h3, h4⟩ | ⟨i, j0, e', cs, rfl, h1, h2, h3, h4, h5⟩ | ⟨h1, h2⟩
    · exact h.own id b s ((r1 id h1).symm.trans e) hs
    · cases s' with
      | none =>
        rw [r3 i h1] at e
        simp only [Option.some.injEq, Prod.mk.injEq] at e
        exact absurd e.2.symm hs
      | some j' =>
        have e2 := (r2 i j' h1).symm.trans e
        exact ⟨(h.fx j' b s e' 0 e2 hs (h4 j' rfl)).2.imp_right fun h => ⟨h.1, h.2 _⟩, (h.own j' b s e2 hs).2⟩
    · have e2 := (r2 i j0 h1).symm.trans e
      have hi := (List.getElem?_eq_some_iff.1 h1).1
      exact ⟨(h.own j0 b s e2 hs).1.imp_right fun hq => ⟨hq.1, hK (by simp only; omega) j0 _ h3 hq.2⟩, (h.own j0 b s e2 hs).2⟩
    · rw [r4 id h1] at e; cases e
  · rcases rows id with ⟨h1, h2⟩ | ⟨i, s', e', rfl, h1, h2, h3, h4⟩ | ⟨i, j0, e', cs, rfl, h1, h2, h3, h4, h5⟩ | ⟨h1, h2⟩
    · rw [h2] at hm
      exact absurd hm kf
    · cases s' with
      | none =>
        rw [r3 i h1] at e
        simp only [Option.some.injEq, Prod.mk.injEq] at e
        exact absurd e.2.symm hs
      | some j => exact h.fx j b s e' o ((r2 i j h1).symm.trans e) hs (h4 j rfl)
    · rw [h2] at hm; cases hm
    · rw [h2] at hm; cases hm
  · rcases rows id with ⟨h1, h2⟩ | ⟨i, s', e', rfl, h1, h2, h3, h4⟩ | ⟨i, j0, e', cs, rfl, h1, h2, h3, h4, h5⟩ | ⟨h1, h2⟩
    · rw [h2] at ho
      have ha : alive (keepC P nb k.t id (gm st.m id)) = true := by
        cases hk2 : keepC P nb k.t id (gm st.m id) <;> first | rfl | (rw [hk2] at ho; exact ho.elim)
      exact h.dom id b s o ((r1 id h1).symm.trans e) (((kb ha).2.1 s o).1 ho)
    · rw [h2] at ho
      cases s' with
      | none =>
        rw [r3 i h1] at e
        simp only [Option.some.injEq, Prod.mk.injEq] at e
        obtain ⟨rfl, rfl⟩ := e
        exact absurd rfl ho.1
      | some j =>
        exact h.dom j b s o ((r2 i j h1).symm.trans e) (by rw [h4 j rfl]; exact ho)
    · rw [h2] at ho
      exact h.dom j0 b s o ((r2 i j0 h1).symm.trans e) (by rw [h4]; exact ho)
    · rw [h2] at ho; exact ho.elim
  · -- no block twice
    have key : ∀ {id b s}, R' id = some (b, s) → s ≠ (0, 0) → alive (gm (k.m ++ (List.range nb).map fun id => (id, keepC P nb k.t id (gm st.m id))) id) = true →
        ∃ j, R j = some (b, s) ∧ alive (gm st.m j) = true ∧ ((id < nb ∧ j = id ∧ ∀ e, gm st.m j ≠ .fr e) ∨ ∃ i, id = nb + i ∧ k.src[i]? = some (some j) ∧ ((∃ e, gm st.m j = .fr e) ∨ nb ≤ j)) := fun {id b s} e hs ha => by
      rcases rows id with ⟨h1, h2⟩ | ⟨i, s', e', rfl, h1, h2, h3, h4⟩ | ⟨i, j0, e', cs, rfl, h1, h2, h3, h4, h5⟩ | ⟨h1, h2⟩
      · rw [h2] at ha
        obtain ⟨k1, _, k3⟩ := kb ha
        exact ⟨id, (r1 id h1).symm.trans e, k1, .inl ⟨h1, rfl, k3⟩⟩
      · cases s' with
        | none =>
          rw [r3 i h1] at e
          simp only [Option.some.injEq, Prod.mk.injEq] at e
          exact absurd e.2.symm hs
        | some j => exact ⟨j, (r2 i j h1).symm.trans e, by rw [h4 j rfl]; rfl, .inr ⟨i, rfl, h1, .inl ⟨e', h4 j rfl⟩⟩⟩
      · exact ⟨j0, (r2 i j0 h1).symm.trans e, by rw [h4]; rfl, .inr ⟨i, rfl, h1, .inr h3⟩⟩
      · rw [h2] at ha; cases ha
    obtain ⟨j, a1, a2, a3⟩ := key e hs ha
    obtain ⟨j', b1, b2, b3⟩ := key e' hs' ha'
    obtain rfl := h.inj j j' b s s' a1 b1 hs hs' a2 b2
    rcases a3 with ⟨a0, rfl, a4⟩ | ⟨i, rfl, a4, a5⟩ <;> rcases b3 with ⟨b0, b4, b5⟩ | ⟨i', rfl, b4, b5⟩
    · exact b4
    · rcases b5 with ⟨e2, b5⟩ | b5
      · exact absurd b5 (a4 e2)
      · omega
    · rcases a5 with ⟨e1, a5⟩ | a5
      · exact absurd a5 (b5 e1)
      · omega
    · rw [g4 i i' _ a4 b4]
  · rcases rows id with ⟨h1, h2⟩ | ⟨i, s', e', rfl, h1, h2, h3, h4⟩ | ⟨i, j0, e', cs, rfl, h1, h2, h3, h4, h5⟩ | ⟨h1, h2⟩
    · have ha : alive (keepC P nb k.t id (gm st.m id)) = true := by
        have := ho 0
        rw [h2] at this
        cases hk2 : keepC P nb k.t id (gm st.m id) <;> first | rfl | (rw [hk2] at this; exact this.elim)
      exact h.nz id b s ((r1 id h1).symm.trans e) fun o => by
        have := ho o
        rw [h2] at this
        exact ((kb ha).2.1 s o).1 this
    · have := ho 0
      rw [h2] at this
      intro hs
      rw [hs] at this
      exact this.1 rfl
    · exact h.nz j0 b s ((r2 i j0 h1).symm.trans e) fun o => by
        have := ho o
        rw [h2] at this
        rw [h4]; exact this
    · have := ho 0
      rw [h2] at this
      exact this.elim

def Ex.exit : Ex → Exit
  | .nrm => .normal
  | .ext id => .exit id
  | .ret => .ret

def round (P : Program) (S : Spec) (RO : Nat → Bool) (L : LSpec) (c : Code) (p : Pl) (keep : List (Nat × Option TypeId)) (nb : Nat) (st : St) : Option (Ex × St) :=
  evC P S RO L c (false :: p) st fun e s => match norm P keep nb s with
    | some s' => some (e, s')
    | none => none
def roundR (P : Program) (S : Spec) (RO : Nat → Bool) (L : LSpec) (c : Code) (p : Pl) (st : St) : Option (Ex × St) :=
  evC P S RO L c (false :: p) st fun e s => some (e, s)
inductive LB (P : Program) (S : Spec) (RO : Nat → Bool) (L : LSpec) (c : Code) (p : Pl) (keep : List (Nat × Option TypeId)) (nb : Nat) : St → Ex → St → Prop
  | stop {st : St} {e : Ex} {s : St} : round P S RO L c p keep nb st = some (e, s) → e ≠ .nrm → LB P S RO L c p keep nb st e s
  | more {st s1 : St} {e : Ex} {s : St} : round P S RO L c p keep nb st = some (.nrm, s1) → LB P S RO L c p keep nb s1 e s → LB P S RO L c p keep nb st e s
  | stopR {st : St} {e : Ex} {s : St} : roundR P S RO L c p st = some (e, s) → e ≠ .nrm → LB P S RO L c p keep nb st e s
  | moreR {st s1 : St} {e : Ex} {s : St} : roundR P S RO L c p st = some (.nrm, s1) → LB P S RO L c p keep nb s1 e s → LB P S RO L c p keep nb st e s
  | enter {st s1 : St} {e : Ex} {s : St} : norm P keep nb st = some s1 → LB P S RO L c p keep nb s1 e s → LB P S RO L c p keep nb st e s

structure KpOf (Y : Nat → Prop) (W W' : World) : Prop where
  os : W'.os = W.os
  tape : W'.tape = W.tape
  output : W'.output = W.output
  size : W.heap.size ≤ W'.heap.size
  same : ∀ (k : Nat) (o : Obj), W.heap[k]? = some o → o.isCells = true → ¬ Y k → W'.heap[k]? = some o
structure BelowZ (Z : Nat → Prop) (W W' : World) : Prop where
  os : W'.os = W.os
  tape : W'.tape = W.tape
  output : W'.output = W.output
  size : W.heap.size ≤ W'.heap.size
  block : ∀ k, k < W.heap.size → ¬ Z k → W'.heap[k]? = W.heap[k]?
def encV (x : List AV) : Array Value := (toVL x).toArray
structure SeqCon (P : Program) (g : FuncId) (caps : List AV) (xs : List (List AV)) : Prop where
  fn : ∃ fn, P.funcs[g]? = some fn ∧ (fn.name == "runtime.NumGoroutine") = false ∧ fn.body.isSome = true
  plain : ∀ x, x ∈ xs → plainL x = true
  seq : ∀ (X : Nat → Nat → Prop) (Y : Nat → Prop) (n : Nat) (w : World) (lb : Array Value), (∀ b o, X b o → b < w.heap.size) → (∀ b o, Y b → X b o) → lb.size = caps.length → (∀ k, k < caps.length → VR P X none2 w (caps.getD k .u) (lb.getD k undef)) →
    ∀ (l : Nat) (J : (Nat → Prop) → Nat → World → Prop) (Jx : (Nat → Prop) → World → Prop),
      (∀ Z i W W', J Z i W → BelowZ Z W W' → J (fun b => Z b ∨ (W.heap.size ≤ b ∧ b < W'.heap.size)) i W') → (∀ Z W W', Jx Z W → BelowZ Z W W' → Jx (fun b => Z b ∨ (W.heap.size ≤ b ∧ b < W'.heap.size)) W') → J (fun _ => False) 0 w →
      (∀ Z i x W m, J Z i W → xs[i]? = some x → YieldAt (FW none) m P l (encV x) W fun e W' => (e = .returned (.bool true) ∧ J Z (i + 1) W' ∧ KpOf Y W W') ∨ (e = .returned (.bool false) ∧ Jx Z W' ∧ KpOf Y W W')) →
      CallsIn (FW none) n P g (#[.func (.yield l) #[] #[]] ++ lb) w fun e W' => (∃ v, e = .returned v) ∧ ((∃ Z, J Z xs.length W') ∨ ∃ Z, Jx Z W')

def startR : List Nat → List AV → St → St
  | p :: ps, v :: x, st => startR ps x (st.put (some p) v)
  | _, _, st => st
def roundF (P : Program) (S : Spec) (RO : Nat → Bool) (L : LSpec) (ps : List Nat) (assign body : Code) (p : Pl) (nb : Nat) (st : St) (x : List AV) : Option (Ex × St) :=
  evC P S RO L assign (false :: p) (startR ps x st) fun e s => match e with
    | .nrm => evC P S RO L body (true :: p) s fun e s => some (e, { st with m := (List.range nb).map fun id => (id, keepB P nb (gm s.m id)) })
    | _ => none
inductive Rounds (P : Program) (S : Spec) (RO : Nat → Bool) (L : LSpec) (ps : List Nat) (assign body : Code) (p : Pl) (nb : Nat) : St → List (List AV) → Ex → St → Prop
  | done {st : St} : Rounds P S RO L ps assign body p nb st [] .nrm st
  | go {st s1 : St} {x : List AV} {xs : List (List AV)} {e : Ex} {s : St} : roundF P S RO L ps assign body p nb st x = some (.nrm, s1) → Rounds P S RO L ps assign body p nb s1 xs e s → Rounds P S RO L ps assign body p nb st (x :: xs) e s
  | out {st : St} {x : List AV} {xs : List (List AV)} {e : Ex} {s : St} : roundF P S RO L ps assign body p nb st x = some (e, s) → e ≠ .nrm → Rounds P S RO L ps assign body p nb st (x :: xs) e s
def RB (P : Program) (S : Spec) (RO : Nat → Bool) (L : LSpec) (g : Operand) (ps : List Nat) (assign body : Code) (p : Pl) (keep : List (Nat × Option TypeId)) (nb : Nat) (st : St) (e : Ex) (s : St) : Prop :=
  ∃ gf caps xs st1, val st g = .fn gf caps ∧ freeL P 0 caps = true ∧ SeqCon P gf caps xs ∧ (∀ x, x ∈ xs → x.length = ps.length) ∧ (∀ q, q ∈ ps → q < st.nt) ∧
    norm P keep nb st = some st1 ∧ st1.nx = nb ∧ Rounds P S RO L ps assign body p nb (liveOnly P st1) xs e s

def Chosen : List (Bool × Ex × St) → Ex → St → Prop
  | [], _, _ => False
  | (g, e, s) :: r, e', s' => (g = true ∧ e' = e ∧ s' = s) ∨ (g = false ∧ Chosen r e' s')
theorem pickK_some {ρ : Type} {K : Ex → St → Option ρ} {r : ρ} : ∀ {outs : List (Bool × Ex × St)}, pickK K outs = some r → ∃ e s, Chosen outs e s ∧ K e s = some r
  | [], h => by cases h
  | (g, e, s) :: outs, h => by
    simp only [pickK] at h
    cases g
    · obtain ⟨e', s', h1, h2⟩ := pickK_some (outs := outs) h
      exact ⟨e', s', .inr ⟨rfl, h1⟩, h2⟩
    · exact ⟨e, s, .inl ⟨rfl, rfl, rfl⟩, h⟩
def LOK (P : Program) (S : Spec) (RO : Nat → Bool) (L : LSpec) : Nat → Bool → Code → Pl → Prop
  | lo, nr, .seq a b, p => LOK P S RO L lo nr a (false :: p) ∧ LOK P S RO L lo nr b (true :: p)
  | lo, nr, .cond _ a b, p => LOK P S RO L lo nr a (false :: p) ∧ LOK P S RO L lo nr b (true :: p)
  | lo, nr, .block _ c, p => LOK P S RO L lo nr c (false :: p)
  | lo, nr, .loop c, p => (∀ st outs e s, lo ≤ st.nx → L p st = some outs → Chosen outs e s → ∃ keep nb, lo ≤ nb ∧ LB P S RO L c p keep nb st e s) ∧ LOK P S RO L lo nr c (false :: p)
  | lo, nr, .rangeFunc g ps assign body, p => nr = false ∧ (∀ st outs e s, lo ≤ st.nx → L p st = some outs → Chosen outs e s → ∃ keep nb, lo ≤ nb ∧ RB P S RO L g ps.toList assign body p keep nb st e s) ∧ (∀ nb, LOK P S RO L nb true assign (false :: p)) ∧ ∀ nb, LOK P S RO L nb true body (true :: p)
  | _, _, _, _ => True

theorem loop_of {c : Code} (h : ∀ (b : Frame) (k : List Item) (cs : List Frame), b.roundOf = (FW ro).round → (FW ro).fn b.fn → (FW ro).room (cs.length + 1 + n) →
      ∃ e a' w', Q e a' w' ∧ ArrivesIn (Machine.fenced P (FW ro)) P (lone (b.atR a (.code c :: .inLoop c :: k)) cs w) b k cs e a' w') : (Code.loop c).wpIn (FW ro) n P Q a w := by
  intro b k cs hro hb hr
  obtain ⟨e, a', w', hq, harr⟩ := h b k cs hro hb hr
  exact ⟨e, a', w', hq, .of_steps (.one (fenced_calm hb hr rfl) stepR_loop) harr⟩
theorem of_loop {c : Code} (h : c.wpIn (FW ro) n P (Exit.then (fun a w => ∀ (b : Frame) (k : List Item) (cs : List Frame), b.roundOf = (FW ro).round → (FW ro).fn b.fn → (FW ro).room (cs.length + 1 + n) →
      ∃ e a' w', Q e a' w' ∧ ArrivesIn (Machine.fenced P (FW ro)) P (lone (b.atR a (.code c :: .inLoop c :: k)) cs w) b k cs e a' w') Q) a w) :
    ∀ (b : Frame) (k : List Item) (cs : List Frame), b.roundOf = (FW ro).round → (FW ro).fn b.fn → (FW ro).room (cs.length + 1 + n) →
      ∃ e a' w', Q e a' w' ∧ ArrivesIn (Machine.fenced P (FW ro)) P (lone (b.atR a (.code c :: .inLoop c :: k)) cs w) b k cs e a' w' := by
  intro b k cs hro hb hr
  obtain ⟨e, a₁, w₁, hq, harr⟩ := h b (.inLoop c :: k) cs hro hb hr
  cases e with
  | normal =>
    obtain ⟨e₂, a₂, w₂, hq₂, harr₂⟩ := hq b k cs hro hb hr
    exact ⟨e₂, a₂, w₂, hq₂, .of_steps (StepsIn.trans harr (.one (fenced_calm hb hr rfl) stepR_inLoop)) harr₂⟩
  | exit id => exact ⟨_, a₁, w₁, hq, .pass (x := .inLoop c) rfl (fun _ _ => .inl (by simp)) harr⟩
  | goto l => exact ⟨_, a₁, w₁, hq, .pass (x := .inLoop c) rfl (fun _ _ => .inl (by simp)) harr⟩
  | ret => exact ⟨_, a₁, w₁, hq, .pass (x := .inLoop c) rfl (fun _ _ => .inl (by simp)) harr⟩
  | panic ch => exact ⟨_, a₁, w₁, hq, .pass (x := .inLoop c) rfl (fun _ _ => .inl (by simp)) harr⟩
  | outgrown => exact ⟨_, a₁, w₁, hq, .pass (x := .inLoop c) rfl (fun _ _ => .inl (by simp)) harr⟩
end Go.Ev

set_option linter.unusedVariables false
set_option linter.unusedSimpArgs false
namespace Go.Ev
open Go Go.RowKit

variable {P : Program} {w0 : Base} {X D : Nat → Nat → Prop} {R : Nat → Option (Nat × Nat × Nat)} {st : St} {a : Act} {w : World}
variable {ro : Option Nat} {n : Nat} {Q : Exit → Act → World → Prop} {S : Spec} {RO : Nat → Bool} {L : LSpec}

def Walks (P : Program) (S : Spec) (RO : Nat → Bool) (L : LSpec) (c : Code) (p : Pl) (lo : Nat) (nr : Bool) (ro : Option Nat) (n : Nat) : Prop :=
  ∀ {w0 : Base} {X : Nat → Nat → Prop} {ρ : Type} {st : St} {a : Act} {w : World} {D : Nat → Nat → Prop} {R : Nat → Option (Nat × Nat × Nat)} {K : Ex → St → Option ρ} {r : ρ} {Q : Exit → Act → World → Prop},
    SR P w0 X D R st a w → Fresh R st.nx → lo ≤ st.nx → (∀ i j, lo ≤ i → w0.K i → w0.K j) → evC P S RO L c p st K = some r →
    (∀ D' R' e st' a' w', SR P w0 X D' R' st' a' w' → Fresh R' st'.nx → (∀ id, id < lo → R' id = R id ∨ R' id = none) → (nr = true → a'.defers = a.defers) → lo ≤ st'.nx → st'.nt = st.nt → K e st' = some r → Q e.exit a' w') → c.wpIn (FW ro) n P Q a w

def Rl (R : Nat → Option (Nat × Nat × Nat)) (st : St) (id : Nat) : Option (Nat × Nat × Nat) := if alive (gm st.m id) = true then R id else none
theorem gt_map (f : AV → AV) : ∀ (l : List (Nat × AV)) (t : Nat), gt (l.map fun p => (p.1, f p.2)) t = .u ∨ gt (l.map fun p => (p.1, f p.2)) t = f (gt l t)
  | [], t => .inl rfl
  | (k, v) :: l, t => by
    simp only [List.map_cons, gt_cons]
    split
    · exact .inr rfl
    · exact gt_map f l t
theorem gm_map (f : Blk → Blk) (hf : f .dead = .dead) : ∀ (l : List (Nat × Blk)) (t : Nat), gm (l.map fun p => (p.1, f p.2)) t = f (gm l t)
  | [], t => by simp [gm, hf]
  | (k, v) :: l, t => by
    simp only [List.map_cons, gm_cons]
    split
    · rfl
    · exact gm_map f hf l t
theorem liveOnly_sound (h : SR P w0 X D R st a w) (hno : ∀ id e, gm st.m id ≠ .fr e) :
    SR P w0 X (XR X (Rl R st)) (Rl R st) (liveOnly P st) a w ∧ (∀ b o, XR X (Rl R st) b o → D b o) ∧ (∀ id id' b s s', Rl R st id = some (b, s) → Rl R st id' = some (b, s') → id = id') ∧
      (∀ id b s, Rl R st id = some (b, s) → s ≠ (0, 0)) ∧ (∀ id e, gm (liveOnly P st).m id ≠ .fr e) := by
  have hfull : ∀ id, alive (gm st.m id) = true → ∀ s o, owns P (gm st.m id) s o := fun id ha s o => by
    cases hk : gm st.m id with
    | dead => rw [hk] at ha; cases ha
    | fr e => exact absurd hk (hno id e)
    | _ => trivial
  have rl : ∀ {id x}, Rl R st id = some x → alive (gm st.m id) = true ∧ R id = some x := fun {id x} e => by
    unfold Rl at e
    split at e
    · exact ⟨by assumption, e⟩
    · cases e
  have hsub : ∀ b o, XR X (Rl R st) b o → D b o := fun b o hb => by
    rcases hb with hb | ⟨id, s, hb⟩
    · exact h.X b o hb
    · obtain ⟨g1, g2⟩ := rl hb
      exact h.dom id b s o g2 (hfull id g1 s o)
  have hnz : ∀ id b s, Rl R st id = some (b, s) → s ≠ (0, 0) := fun id b s e => h.nz id b s (rl e).2 (hfull id (rl e).1 s)
  have hinj : ∀ id id' b s s', Rl R st id = some (b, s) → Rl R st id' = some (b, s') → id = id' := fun id id' b s s' e e' =>
    h.inj id id' b s s' (rl e).2 (rl e').2 (hnz id b s e) (hnz id' b s' e') (rl e).1 (rl e').1
  have shrink : ∀ {R2 : Nat → Option (Nat × Nat × Nat)} {x : AV} {v : Value}, VR P D R2 w x v → VR P (XR X (Rl R st)) R2 w x v := fun hv => hv.mono' (fun _ _ e => e) (fun b o u hd hc => ⟨fun hx => hd (hsub b o hx), hc⟩)
  have hR : ∀ id y, (fun id => alive (gm st.m id)) id = true → R id = some y → Rl R st id = some y := fun id y ha e => by simp only at ha; simp [Rl, ha, e]
  have hgm : ∀ id, gm (liveOnly P st).m id = cond (okB P (fun id => alive (gm st.m id)) (gm st.m id)) (renB P (fun id => id) (gm st.m id)) .dead := fun id => gm_map (fun b => cond (okB P (fun id => alive (gm st.m id)) b) (renB P (fun id => id) b) .dead) rfl st.m id
  have hfr : ∀ id e, gm (liveOnly P st).m id ≠ .fr e := fun id e hm => by
    rw [hgm] at hm
    cases ho : okB P (fun id => alive (gm st.m id)) (gm st.m id) with
    | false => rw [ho] at hm; cases hm
    | true =>
      rw [ho] at hm
      cases hk : gm st.m id <;> rw [hk] at hm ho <;> simp [renB, okB] at hm ho
  refine ⟨⟨fun t => ?_, h.nt, fun id => ?_, fun id b s e hs => h.own id b s (rl e).2 hs, fun id b s et o e hs hm => absurd hm (hfr id et), fun id b s o e _ => .inr ⟨id, s, e⟩, fun id id' b s s' e e' _ _ _ _ => hinj id id' b s s' e e',
    fun id b s e _ => hnz id b s e, fun b o hx => .inl hx, fun b o hd => h.lt b o (hsub b o hd), h.old, ?_⟩, hsub, hinj, hnz, hfr⟩
  · rcases gt_map (fun v => cond (okV P (fun id => alive (gm st.m id)) v) (renV P (fun id => id) v) .u) st.t t with e | e
    · show VR P _ _ w (gt (List.map _ st.t) t) _
      rw [e]; exact .u
    · show VR P _ _ w (gt (List.map _ st.t) t) _
      rw [e]
      cases ho : okV P (fun id => alive (gm st.m id)) (gt st.t t) with
      | false => exact .u
      | true => exact shrink ((h.tmp t).ren hR ho)
  · rw [hgm]
    cases ho : okB P (fun id => alive (gm st.m id)) (gm st.m id) with
    | false => trivial
    | true =>
      have ha := (okB_alive ho).1
      exact ((h.mem id).ren (f := fun id => id) hR (fun y e => hR id y ha e) ho).mono rfl (fun _ _ _ _ => rfl) fun _ _ => shrink
  · obtain ⟨ds, d1, d2, d3⟩ := h.df
    exact ⟨ds, d1, d2, fun b hb => ⟨(d3 b hb).1, fun o hx => (d3 b hb).2.1 o (hsub b o hx), (d3 b hb).2.2⟩⟩

structure Keep (l : Nat) (Z : Nat → Prop) (W W' : World) : Prop where
  os : W'.os = W.os
  tape : W'.tape = W.tape
  output : W'.output = W.output
  size : W.heap.size ≤ W'.heap.size
  block : ∀ k, k < W.heap.size → k ≠ l → ¬ Z k → W'.heap[k]? = W.heap[k]?
theorem Keep.trans {l : Nat} {Z Z' : Nat → Prop} {A B C : World} (h : Keep l Z A B) (k : Keep l Z' B C) (hz : ∀ b, b < A.heap.size → Z' b → Z b) : Keep l Z A C :=
  ⟨k.os.trans h.os, k.tape.trans h.tape, k.output.trans h.output, Nat.le_trans h.size k.size, fun b hb hl hZ => (k.block b (Nat.lt_of_lt_of_le hb h.size) hl (fun hz' => hZ (hz b hb hz'))).trans (h.block b hb hl hZ)⟩
theorem Keep.put {l : Nat} {Z : Nat → Prop} (W : World) (o : Obj) : Keep l Z W (W.putObj l o) :=
  ⟨rfl, rfl, rfl, by simp, fun k hk hl _ => World.putObj_heap_other hl⟩
theorem BelowY.keep {l : Nat} {b : Base} {W' : World} (h : BelowY b W') : Keep l b.Y b.w W' := ⟨h.os, h.tape, h.output, h.size, fun k hk _ hY => h.block k hk hY⟩

theorem startR_sound : ∀ (ps : List Nat) (x : List AV) {st : St} {tmps : Array Value}, (∀ t, VR P D R w (gt st.t t) (tmps.getD t undef)) → (∀ q, q ∈ ps → q < tmps.size) → plainL x = true →
    (∀ t, VR P D R w (gt (startR ps x st).t t) (((ps.zip (toVL x)).foldl (fun t (p, v) => t.setIfInBounds p v) tmps).getD t undef)) ∧
    ((ps.zip (toVL x)).foldl (fun t (p, v) => t.setIfInBounds p v) tmps).size = tmps.size ∧ (startR ps x st).m = st.m ∧ (startR ps x st).nx = st.nx ∧ (startR ps x st).nt = st.nt
  | [], x, st, tmps, h, _, _ => by cases x <;> exact ⟨by simpa [startR] using h, by simp, rfl, rfl, rfl⟩
  | p :: ps, [], st, tmps, h, _, _ => ⟨by simpa [startR, toVL] using h, by simp [toVL], rfl, rfl, rfl⟩
  | p :: ps, v :: x, st, tmps, h, hq, hp => by
    simp only [plainL, Bool.and_eq_true] at hp
    have hpl : p < tmps.size := hq p (by simp)
    have := startR_sound ps x (st := st.put (some p) v) (tmps := tmps.setIfInBounds p (toV v)) (fun t => by
      simp only [St.put, gt_cons]
      by_cases e : t = p
      · subst e
        simp only [if_true]
        have := (VR_toV_all (P := P) (D := D) (R := R) (w := w)).1 v hp.1
        simpa [Array.getD_eq_getD_getElem?, hpl] using this
      · simp only [e, if_false]
        have := h t
        simpa [Array.getD_eq_getD_getElem?, Array.getElem?_setIfInBounds, Ne.symm e] using this) (fun q hq' => by simpa using hq q (by simp [hq'])) hp.2
    simpa [startR, toVL, St.put] using this

theorem cells_ne {W : World} {l b o : Nat} {u : Value} {r : Loop} (hl : W.heap[l]? = some (.loop r)) (hc : W.cell? ⟨b, o, none⟩ = some u) : b ≠ l := fun e => by
  subst e
  simp [World.cell?, hl] at hc
theorem cell_lt {W : World} {b o : Nat} {u : Value} (hc : W.cell? ⟨b, o, none⟩ = some u) : b < W.heap.size := by
  obtain ⟨ob, h, _⟩ := cells_of_cell hc
  exact (Array.getElem?_eq_some_iff.1 h).1
theorem VR.keep {l : Nat} {Z : Nat → Prop} {W W' : World} {r : Loop} {x : AV} {v : Value} (h : VR P D R W x v) (hk : Keep l Z W W') (hl : W.heap[l]? = some (.loop r)) (hZ : ∀ b o, Z b → D b o) : VR P D R W' x v :=
  h.mono' (fun _ _ e => e) fun b o u hd hc => ⟨hd, (World.cell?_of_block (hk.block b (cell_lt hc) (cells_ne hl hc) (fun hz => hd (hZ b o hz)))).trans hc⟩

def Ex.jump : Ex → Option Code
  | .nrm => none
  | .ext id => some (.exit id)
  | .ret => some .ret
end Go.Ev

set_option linter.unusedVariables false
set_option linter.unusedSimpArgs false
namespace Go.Ev
open Go Go.RowKit

variable {P : Program} {w0 : Base} {X D : Nat → Nat → Prop} {R : Nat → Option (Nat × Nat × Nat)} {st : St} {a : Act} {w : World}
variable {ro : Option Nat} {n : Nat} {Q : Exit → Act → World → Prop} {S : Spec} {RO : Nat → Bool} {L : LSpec}

def realOf (R : Nat → Option (Nat × Nat × Nat)) (b : Nat) : Prop := ∃ id s, R id = some (b, s) ∧ s ≠ (0, 0)
theorem keepB_fr {nb : Nat} {b : Blk} {e : TypeId} : keepB P nb b ≠ .fr e := by
  rcases keepB_any (P := P) nb b with h | ⟨h, hf⟩
  · rw [h]; simp
  · intro h2
    rw [h] at h2
    rw [h2] at hf
    simp [freeB] at hf

theorem round_law {ps : List Nat} {assign body : Code} {p : Pl} {nb m : Nat} {l : Nat} {rec : LoopState → Option Code → Loop} (hrec : ∀ s pe, rec s pe = { rec .ready none with state := s, pending := pe })
    (ha : Walks P S RO L assign (false :: p) nb true (some l) m) (hb : Walks P S RO L body (true :: p) nb true (some l) m) {stc : St} {W : World}
    (hS : SR P w0 X (XR X R) R stc a W) (hinj : ∀ id id' b s s', R id = some (b, s) → R id' = some (b, s') → id = id') (hnz : ∀ id b s, R id = some (b, s) → s ≠ (0, 0)) (hnofr : ∀ id e, gm stc.m id ≠ .fr e)
    (hR1 : ∀ id, nb ≤ id → R id = none) (hnx : stc.nx = nb) (hlX : ∀ o, ¬ XR X R l o) (hl0 : w0.w.heap.size ≤ l)
    (hW : W.heap[l]? = some (.loop (rec .ready none))) (hps : ∀ q, q ∈ ps → q < stc.nt) {x : List AV} (hx : plainL x = true) {e1 : Ex} {s1 : St}
    (hr : roundF P S RO L ps assign body p nb stc x = some (e1, s1)) {Rp : Ending → World → Prop}
    (hRp : ∀ W', (s1.t = stc.t ∧ s1.nx = stc.nx ∧ s1.nt = stc.nt) → (∀ id e, gm s1.m id ≠ .fr e) → SR P w0 X (XR X R) R s1 a W' → Keep l (rowsOf R) W W' → W'.heap[l]? = some (.loop (rec (if e1.jump.isNone then .ready else .done) e1.jump)) → Rp (.returned (.bool e1.jump.isNone)) W') :
    assign.wpIn (FW (some l)) m P (Exit.then (fun a₁ w₁ => ∃ w₂, (Instr.beginRound l).run P w₁ = .ok () w₂ ∧ body.wpIn (FW (some l)) m P (roundPost P l Rp) a₁ w₂) (fun _ _ _ => False))
      { tmps := (ps.zip (toVL x)).foldl (fun t (p, v) => t.setIfInBounds p v) a.tmps, defers := [] } W := by
  unfold roundF at hr
  have hlW := (Array.getElem?_eq_some_iff.1 hW).1
  have hnl : ¬ rowsOf R l := fun h => hlX 0 (.inr h)
  obtain ⟨t1, t2, t3, t4, t5⟩ := startR_sound ps x (st := stc) hS.tmp (fun q hq => by rw [hS.nt]; exact hps q hq) hx
  have hSr : SR P ⟨W, rowsOf R, fun _ => True, 0, Nat.zero_le _⟩ (XR X R) (XR X R) R (startR ps x stc) { tmps := (ps.zip (toVL x)).foldl (fun t (p, v) => t.setIfInBounds p v) a.tmps, defers := [] } W :=
    ⟨t1, by rw [t2, t5]; exact hS.nt, fun id => by rw [t3]; exact hS.mem id, fun id b s e hs => ⟨.inr ⟨⟨id, s, e⟩, trivial⟩, (hS.own id b s e hs).2⟩, fun id b s et o e hs hm => by rw [t3] at hm; exact absurd hm (hnofr id et), fun id b s o e _ => .inr ⟨id, s, e⟩,
      fun id id' b s s' e e' _ _ _ _ => hinj id id' b s s' e e', fun id b s e _ => hnz id b s e, fun b o h => h, hS.lt,
      ⟨rfl, rfl, rfl, Nat.le_refl _, fun _ _ _ => rfl⟩, ⟨[], rfl, by simp, fun b h => by simp at h⟩⟩
  refine ha hSr (fun id hid => hR1 id (by rw [t4, hnx] at hid; exact hid)) (by rw [t4, hnx]; exact Nat.le_refl _) (fun _ _ _ _ => trivial) hr fun D2 R2 e2 s2 a2 W2 h2 hf2 hR2 _ hlo2 hnt2 hK2 => ?_
  cases e2 with
  | ext id => simp at hK2
  | ret => simp at hK2
  | nrm =>
    simp only at hK2
    have hl2 : W2.heap[l]? = some (.loop (rec .ready none)) := (h2.old.block l hlW hnl).trans hW
    have hlW2 := (Array.getElem?_eq_some_iff.1 hl2).1
    have hn2 : ∀ b, b < W.heap.size → realOf R2 b → rowsOf R b := fun b hb ⟨id, s, e, hs⟩ => by
      rcases (h2.own id b s e hs).1 with g | g
      · simp only at g; omega
      · exact g.1
    refine ⟨_, run_beginRound hl2 (by rw [hrec]), ?_⟩
    generalize hW3 : W2.putObj l (.loop { rec .ready none with state := .busy }) = W3
    have hl3 : W3.heap[l]? = some (.loop { rec .ready none with state := .busy }) := by rw [← hW3]; exact World.putObj_heap_same hlW2
    have ho3 : ∀ k, k ≠ l → W3.heap[k]? = W2.heap[k]? := fun k hk => by rw [← hW3]; exact World.putObj_heap_other hk
    have hz3 : W3.heap.size = W2.heap.size := by rw [← hW3]; simp
    have c3 : ∀ b o u, W2.cell? ⟨b, o, none⟩ = some u → W3.cell? ⟨b, o, none⟩ = some u := fun b o u hc => (World.cell?_of_block (ho3 b (cells_ne hl2 hc))).trans hc
    have hS3 : SR P ⟨W3, realOf R2, fun _ => True, 0, Nat.zero_le _⟩ (XR X R) D2 R2 s2 a2 W3 := by
      have mono : ∀ {x : AV} {v : Value}, VR P D2 R2 W2 x v → VR P D2 R2 W3 x v := fun hv => hv.mono' (fun _ _ e => e) (fun b o u hd hc => ⟨hd, c3 b o u hc⟩)
      refine ⟨fun t => mono (h2.tmp t), h2.nt, fun id => (h2.mem id).mono2 rfl (fun b s e hs hnl' => ho3 b (fun e => hnl'.1 (rec .ready none) (e ▸ hl2))) fun _ _ => mono, fun id b s e hs => ⟨.inr ⟨⟨id, s, e, hs⟩, trivial⟩, by rw [hz3]; exact (h2.own id b s e hs).2⟩, fun id b s et o e hs hm => ⟨(h2.fx id b s et o e hs hm).1, .inr ⟨⟨id, s, e, hs⟩, fun _ => trivial⟩⟩, h2.dom, h2.inj, h2.nz, h2.X,
        fun b o hd => by rw [hz3]; exact h2.lt b o hd, ⟨rfl, rfl, rfl, Nat.le_refl _, fun _ _ _ => rfl⟩, ?_⟩
      · obtain ⟨ds, d1, d2, d3⟩ := h2.df
        exact ⟨ds, d1, d2, fun b hb => ⟨(ho3 b (fun e => by have := (d3 b hb).1; rw [e, hl2] at this; cases this)).trans (d3 b hb).1, (d3 b hb).2.1, Nat.zero_le _⟩⟩
    refine hb hS3 hf2 hlo2 (fun _ _ _ _ => trivial) hK2 fun D4 R4 e4 s4 a4 W4 h4 hf4 hR4 _ hlo4 hnt4 hK4 => ?_
    simp only [Option.some.injEq, Prod.mk.injEq] at hK4
    obtain ⟨rfl, rfl⟩ := hK4
    have hl4 : W4.heap[l]? = some (.loop { rec .ready none with state := .busy }) := (h4.old.block l (by simp only; omega) (fun h => hnl (hn2 l hlW h))).trans hl3
    have hlW4 := (Array.getElem?_eq_some_iff.1 hl4).1
    have hend := run_endRound (P := P) e4.jump hl4
    generalize hW5 : W4.putObj l (.loop { { rec .ready none with state := .busy } with state := if e4.jump.isNone then .ready else .done, pending := e4.jump }) = W5 at hend
    have hl5 : W5.heap[l]? = some (.loop (rec (if e4.jump.isNone then .ready else .done) e4.jump)) := by rw [← hW5, hrec (if e4.jump.isNone then .ready else .done)]; exact World.putObj_heap_same hlW4
    have ho5 : ∀ k, k ≠ l → W5.heap[k]? = W4.heap[k]? := fun k hk => by rw [← hW5]; exact World.putObj_heap_other hk
    have hk : Keep l (rowsOf R) W W5 := by
      have k1 : Keep l (rowsOf R) W W2 := h2.old.keep
      have k2 : Keep l (rowsOf R) W W3 := k1.trans (Z' := fun _ => False) (by rw [← hW3]; exact Keep.put _ _) (fun _ _ h => h.elim)
      have k3 : Keep l (rowsOf R) W W4 := k2.trans h4.old.keep hn2
      exact k3.trans (Z' := fun _ => False) (by rw [← hW5]; exact Keep.put _ _) (fun _ _ h => h.elim)
    have hRR : ∀ id y, id < nb → R4 id = some y → R id = some y := fun id y hid e => by
      rcases hR4 id hid with g | g
      · rw [g] at e
        rcases hR2 id hid with g2 | g2
        · rw [g2] at e; exact e
        · rw [g2] at e; cases e
      · rw [g] at e; cases e
    have hD : ∀ b o, XR X R b o → D4 b o := h4.X
    have hS5 : SR P w0 X (XR X R) R { stc with m := (List.range nb).map fun id => (id, keepB P nb (gm s4.m id)) } a W5 := by
      refine ⟨fun t => (hS.tmp t).keep hk hW (fun b o hb => .inr hb), hS.nt, fun id => ?_, fun id b s e hs => ⟨(hS.own id b s e hs).1, Nat.lt_of_lt_of_le (hS.own id b s e hs).2 hk.size⟩, fun id b s et o e hs hm => ?_, fun id b s o e _ => .inr ⟨id, s, e⟩,
        fun id id' b s s' e e' _ _ _ _ => hinj id id' b s s' e e', fun id b s e _ => hnz id b s e, hS.X, fun b o hd => Nat.lt_of_lt_of_le (hS.lt b o hd) hk.size, ?_, ?_⟩
      · simp only [gm_range]
        split
        · rename_i hid
          rcases keepB_any (P := P) nb (gm s4.m id) with e | ⟨e, hfb'⟩
          · rw [e]; trivial
          · rw [e]
            exact (((h4.mem id).mono2 (w' := W5) rfl (fun b s e hs hnl' => ho5 b (fun e => hnl'.1 { rec .ready none with state := .busy } (e ▸ hl4))) fun x v q2 =>
              q2.mono' (fun _ _ e => e) fun b o u hd hc => ⟨fun hx => hd (hD b o hx), (World.cell?_of_block (ho5 b (cells_ne hl4 hc))).trans hc⟩)).free (R' := R) hRR (fun y e => hRR id y hid e) hfb'
        · trivial
      · simp only [gm_range] at hm
        split at hm
        · exact absurd hm keepB_fr
        · cases hm
      · refine ⟨hk.os.trans hS.old.os, hk.tape.trans hS.old.tape, hk.output.trans hS.old.output, Nat.le_trans hS.old.size hk.size, fun k hk0 hY => (hk.block k (Nat.lt_of_lt_of_le hk0 hS.old.size) (by omega) (fun ⟨id, s, e⟩ => ?_)).trans (hS.old.block k hk0 hY)⟩
        rcases (hS.own id k s e (hnz id k s e)).1 with g | g
        · omega
        · exact hY g.1
      · obtain ⟨ds, d1, d2, d3⟩ := hS.df
        refine ⟨ds, d1, d2, fun b hb => ⟨(hk.block b (Array.getElem?_eq_some_iff.1 (d3 b hb).1).1 (fun e => ?_) (fun h => (d3 b hb).2.1 0 (.inr h))).trans (d3 b hb).1, (d3 b hb).2⟩⟩
        have := (d3 b hb).1
        rw [e, hW] at this
        cases this
    have key := hRp W5 ⟨rfl, rfl, rfl⟩ (fun id e hm => by
      simp only [gm_range] at hm
      split at hm
      · exact absurd hm keepB_fr
      · cases hm) hS5 hk hl5
    cases e4 with
    | nrm => exact ⟨_, _, hend, key⟩
    | ret => exact ⟨_, _, hend, key⟩
    | ext id => exact ⟨_, _, hend, key⟩
end Go.Ev
