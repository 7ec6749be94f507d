/-
  The law WearRates returns true for every climate and all numbers, and leaves its arguments as they were. No conditions.
-/
import Derived.Test.YteclfchlejocmaaEvO
set_option linter.unusedVariables false
set_option linter.unusedSimpArgs false
namespace Go.Ev
open Go Go.RowKit

variable {P : Program} {w0 : Base} {X D : Nat → Prop} {R : Nat → Option (Nat × Nat)} {st : St} {a : Act} {w : World}
variable {ro : Option Nat} {n : Nat} {Q : Exit → Act → World → Prop} {ρ : Type} {S : Spec} {RO : Nat → Bool}

/-! ### The static part -/
theorem has_iff {l : List Nat} {x : Nat} : has l x = true ↔ x ∈ l := by
  simp [has]
theorem befRow_spec (Ms : List Nat) (o : Oper) {i : Nat} (h : Nat.testBit (befRow Ms o) i = true) :
    ∃ e, e ∈ o.after ∧ Region.binds .any e = true ∧ (e.on = i ∨ Nat.testBit (Ms.getD e.on 0) i = true) := by
  unfold befRow at h
  have : ∀ (l : List Edge) (m : Nat), Nat.testBit (l.foldl (fun m e => cond (Region.binds .any e) ((m ||| (2 ^ e.on)) ||| Ms.getD e.on 0) m) m) i = true →
      Nat.testBit m i = true ∨ ∃ e, e ∈ l ∧ Region.binds .any e = true ∧ (e.on = i ∨ Nat.testBit (Ms.getD e.on 0) i = true) := by
    intro l
    induction l with
    | nil => intro m h; exact .inl h
    | cons e l ih =>
      intro m h
      rcases ih _ h with h | ⟨e', h1, h2⟩
      rotate_left
      · exact .inr ⟨e', by simp [h1], h2⟩
      simp only at h
      · cases hb : Region.binds .any e with
        | false => rw [hb] at h; exact .inl h
        | true =>
          rw [hb] at h
          simp only [cond_true, Nat.testBit_or, Bool.or_eq_true, Nat.testBit_two_pow, decide_eq_true_eq] at h
          rcases h with (h | h) | h
          · exact .inl h
          · exact .inr ⟨e, by simp, hb, .inl h⟩
          · exact .inr ⟨e, by simp, hb, .inr h⟩
  rcases this _ _ h with h | ⟨e, h1, h2⟩
  · simp at h
  · exact ⟨e, by simpa using h1, h2⟩

theorem drawRows_spec {ops : Array Oper} {Ms : List Nat} : ∀ (l : List Oper) (j : Nat), (∀ i, l[i]? = ops[j + i]?) → drawRows ops Ms l j = true →
    ∀ k o, j ≤ k → ops[k]? = some o → Ms.getD k 0 = befRow Ms o ∧ Ms.getD k 0 < 2 ^ k ∧ ∀ i x, i < k → ops[i]? = some x → clash ops x o = true → Nat.testBit (Ms.getD k 0) i = true
  | [], j, hl, h, k, o, hk, ho => by
    have := hl (k - j)
    rw [show j + (k - j) = k by omega, ho] at this
    simp at this
  | o' :: l, j, hl, h, k, o, hk, ho => by
    have ho' : ops[j]? = some o' := by have := hl 0; simpa using this.symm
    have hl' : ∀ i, l[i]? = ops[j + 1 + i]? := fun i => by
      have := hl (i + 1)
      simp only [List.getElem?_cons_succ] at this
      rw [this]; congr 1; omega
    simp only [drawRows, Bool.and_eq_true] at h
    obtain ⟨h1, h2, h3, h4⟩ := h
    by_cases e : k = j
    · subst e
      have e2 : o' = o := by rw [ho] at ho'; exact (Option.some.inj ho').symm
      subst e2
      refine ⟨Nat.eq_of_beq_eq_true h1, by simpa [Nat.blt_eq] using h2, fun i x hi hx hc => ?_⟩
      have := List.all_eq_true.1 h3 i (by simpa using hi)
      rw [hx] at this
      simpa [hc] using this
    · exact drawRows_spec l (j + 1) hl' h4 k o (by omega) ho

theorem bit_lt {m j i : Nat} (h : m < 2 ^ j) (hb : Nat.testBit m i = true) : i < j := by
  rcases Nat.lt_or_ge i j with h' | h'
  · exact h'
  · rw [Nat.testBit_lt_two_pow (Nat.lt_of_lt_of_le h (Nat.pow_le_pow_right (by omega) h'))] at hb
    cases hb

/-! ### The region -/
section
variable {ops : Array Oper} {E : List Eff} {base c : Nat} {st0 : St}
/-- What the text's order says of each. -/
structure PathOK (P : Program) (S : Spec) (RO : Nat → Bool) (ops : Array Oper) (base : Nat) (st0 : St) (E : List Eff) (c : Nat) : Prop where
  le : c ≤ ops.size
  len : E.length = c
  row : ∀ k o, ops[k]? = some o → (befs ops).getD k 0 = befRow (befs ops) o ∧ (befs ops).getD k 0 < 2 ^ k ∧ ∀ i x, i < k → ops[i]? = some x → clash ops x o = true → Nat.testBit ((befs ops).getD k 0) i = true
  each : ∀ i o, i < c → ops[i]? = some o → ∃ e s, E[i]? = some e ∧ Stn ops E st0 every i s ∧ Does P S RO ops (base + i) o s e ∧ accOK (befs ops) base i o s = true ∧ (∀ x, o.dst = some x → x < st0.nt)

def bef (ops : Array Oper) (j i : Nat) : Prop := Nat.testBit ((befs ops).getD j 0) i = true
theorem PathOK.lt (h : PathOK P S RO ops base st0 E c) {j i : Nat} {o : Oper} (ho : ops[j]? = some o) (hb : bef ops j i) : i < j := bit_lt (h.row j o ho).2.1 hb
theorem PathOK.clash (h : PathOK P S RO ops base st0 E c) {j i : Nat} {x o : Oper} (hi : i < j) (hx : ops[i]? = some x) (ho : ops[j]? = some o) (hc : clash ops x o = true) : bef ops j i := (h.row j o ho).2.2 i x hi hx hc

/-- Who writes a row: the one that makes it, or a store that comes after that. -/
theorem PathOK.writer (h : PathOK P S RO ops base st0 E c) {k id : Nat} {o : Oper} {b : Blk} (ho : ops[k]? = some o) (hw : fM E id k = some b) :
    (isStore o = false ∧ id = base + k) ∨ (isStore o = true ∧ (id < base ∨ bef ops k (id - base))) := by
  have hkc : k < c := by
    rcases Nat.lt_or_ge k c with h' | h'
    · exact h'
    · rw [fM, List.getElem?_eq_none (by rw [h.len]; exact h')] at hw
      cases hw
  obtain ⟨e, s, h1, h2, h3, h4, h5⟩ := h.each k o hkc ho
  simp only [fM, h1] at hw
  have key : ∀ b', e.m = some (id, b') → evOp P S RO (base + k) o s some = some e → (isStore o = false ∧ id = base + k) ∨ (isStore o = true ∧ (id < base ∨ bef ops k (id - base))) := fun b' hm hev => by
    rcases evOp_eff hev with g | ⟨g1, b2, g2⟩ | ⟨g1, id2, b2, g2, g3⟩
    · rw [hm] at g; cases g
    · rw [hm] at g2
      simp only [Option.some.injEq, Prod.mk.injEq] at g2
      exact (.inl ⟨g1, g2.1⟩ : (isStore o = false ∧ id = base + k) ∨ (isStore o = true ∧ (id < base ∨ bef ops k (id - base))))
    · rw [hm] at g3
      simp only [Option.some.injEq, Prod.mk.injEq] at g3
      obtain ⟨rfl, _⟩ := g3
      refine .inr ⟨g1, ?_⟩
      simp only [accOK, g2, Bool.or_eq_true, Nat.blt_eq] at h4
      exact h4
  cases hm : e.m with
  | none => rw [hm] at hw; cases hw
  | some p =>
    obtain ⟨i', b'⟩ := p
    rw [hm] at hw
    simp only at hw
    split at hw
    · rename_i e1
      subst e1
      rcases h3 with ⟨_, h3⟩ | ⟨g, want, tg, _, _, ⟨_, h3⟩ | ⟨_, h3⟩⟩
      · exact key b' hm h3
      · exact key b' hm h3
      · rw [h3] at hm; cases hm
    · cases hw
theorem fT_some {x k : Nat} {v : AV} (h : fT ops E x k = some v) : ∃ o, ops[k]? = some o ∧ o.dst = some x := by
  unfold fT at h
  split at h
  · rename_i o e h1 h2
    split at h
    · rename_i hd; exact ⟨o, h1, hd⟩
    · cases h
  · cases h
theorem memS_store {o : Oper} (h : isStore o = true) : memS o = true := by
  unfold isStore at h
  unfold memS
  cases ho : o.op <;> simp [ho] at h ⊢
theorem clash_look {x o : Oper} {d : Nat} (h : x.dst = some d) (hm : d ∈ looks ops o) : clash ops x o = true := by
  simp [Ev.clash, h, has_iff.2 hm]
theorem clash_look' {x o : Oper} {d : Nat} (h : o.dst = some d) (hm : d ∈ looks ops x) : clash ops x o = true := by
  simp [Ev.clash, h, has_iff.2 hm]
theorem clash_dst {x o : Oper} {d : Nat} (h : x.dst = some d) (h' : o.dst = some d) : clash ops x o = true := by
  simp [Ev.clash, h, h']
theorem clash_mem {x o : Oper} (h : memS x = true) (h' : memS o = true) (hs : isStore x = true ∨ isStore o = true) : clash ops x o = true := by
  rcases hs with hs | hs <;> simp [Ev.clash, h, h', hs]

/-- Where all that comes before it has been done, and it has not: it finds what it finds in the text's order. -/
theorem PathOK.agree (h : PathOK P S RO ops base st0 E c) {U : Nat → Bool} {s : St} (hs : Stn ops E st0 U c s) (hdc : ∀ i k, U i = true → bef ops i k → U k = true)
    {i : Nat} {o : Oper} (hiN : i < c) (ho : ops[i]? = some o) (hU : U i = false) (hpre : ∀ k, bef ops i k → U k = true) {si : St} (hsi : Stn ops E st0 every i si) (hacc : accOK (befs ops) base i o si = true) :
    (∀ x, x ∈ looks ops o → gt si.t x = gt s.t x) ∧ (∀ id, acc o si = some id → gm si.m id = gm s.m id) := by
  have hlen := h.len
  have hle := h.le
  refine ⟨fun x hx => ?_, fun id hid => ?_⟩
  · rw [hsi.t, hs.t]
    congr 1
    rw [lastOf_upto (j := i) (n := c) (by omega) fun k hk hkN => ?_]
    · refine lastOf_congr fun k hk => ?_
      simp only [only, every, if_true]
      cases hf : fT ops E x k with
      | none => simp
      | some v =>
        obtain ⟨ok, h1, h2⟩ := fT_some hf
        rw [if_pos (hpre k (h.clash hk h1 ho (clash_look h2 hx)))]
    · simp only [only]
      split
      · rename_i hUk
        cases hf : fT ops E x k with
        | none => rfl
        | some v =>
          obtain ⟨ok, h1, h2⟩ := fT_some hf
          have hne : k ≠ i := fun e => by rw [e, hU] at hUk; cases hUk
          have := hdc k i hUk (h.clash (by omega) ho h1 (clash_look' h2 hx))
          rw [hU] at this; cases this
      · rfl
  · have hmS : memS o = true := by
      unfold acc at hid
      unfold memS
      cases hop : o.op <;> simp [hop] at hid ⊢
    simp only [accOK, hid, Bool.or_eq_true, Nat.blt_eq] at hacc
    have hcl : ∀ k b, k < c → fM E id k = some b → ∃ ok, ops[k]? = some ok := fun k b hk hf => by
      cases hE : E[k]? with
      | none => simp [fM, hE] at hf
      | some e =>
        have := (List.getElem?_eq_some_iff.1 hE).1
        exact ⟨ops[k]'(by omega), by simp⟩
    rw [hsi.m, hs.m]
    congr 1
    rw [lastOf_upto (j := i) (n := c) (by omega) fun k hk hkN => ?_]
    · refine lastOf_congr fun k hk => ?_
      simp only [only, every, if_true]
      cases hf : fM E id k with
      | none => simp
      | some b =>
        obtain ⟨ok, h1⟩ := hcl k b (by omega) hf
        rw [if_pos (hpre k ?_)]
        rcases h.writer h1 hf with ⟨g1, g2⟩ | ⟨g1, g2⟩
        · subst g2
          rcases hacc with g | g
          · omega
          · simpa [bef] using g
        · exact h.clash hk h1 ho (clash_mem (memS_store g1) hmS (.inl g1))
    · simp only [only]
      split
      · rename_i hUk
        cases hf : fM E id k with
        | none => rfl
        | some b =>
          obtain ⟨ok, h1⟩ := hcl k b (by omega) hf
          have hne : k ≠ i := fun e => by rw [e, hU] at hUk; cases hUk
          rcases h.writer h1 hf with ⟨g1, g2⟩ | ⟨g1, g2⟩
          · subst g2
            rcases hacc with g | g
            · omega
            · have := h.lt ho (show bef ops i k by simpa [bef] using g)
              omega
          · have := hdc k i hUk (h.clash (by omega) ho h1 (clash_mem hmS (memS_store g1) (.inr g1)))
            rw [hU] at this; cases this
      · rfl

/-- It is done. -/
theorem PathOK.insert (h : PathOK P S RO ops base st0 E c) {U U' : Nat → Bool} {s : St} (hs : Stn ops E st0 U c s) (hdc : ∀ i k, U i = true → bef ops i k → U k = true)
    {i : Nat} {o : Oper} {e : Eff} (hiN : i < c) (ho : ops[i]? = some o) (he : E[i]? = some e) (hU : U i = false) (hU' : U' i = true) (hUk : ∀ k, k ≠ i → U' k = U k) : Stn ops E st0 U' c (s.app o.dst e) := by
  have hlen := h.len
  have hle := h.le
  refine ⟨fun x => ?_, fun id => ?_, by rw [app_nx]; exact hs.nx, by rw [app_nt]; exact hs.nt⟩
  · rw [app_t]
    by_cases hx : o.dst = some x
    · rw [if_pos hx, lastOf_at (j := i) (b := e.v) hiN (by simp [only, hU', fT, ho, he, hx]) fun k hk hkN => ?_]
      · rfl
      · simp only [only]
        split
        · rename_i hUk'
          rw [hUk k (by omega)] at hUk'
          cases hf : fT ops E x k with
          | none => rfl
          | some v =>
            obtain ⟨ok, h1, h2⟩ := fT_some hf
            have := hdc k i hUk' (h.clash hk ho h1 (clash_dst hx h2))
            rw [hU] at this; cases this
        · rfl
    · rw [if_neg hx, hs.t]
      congr 1
      refine lastOf_congr fun k hk => ?_
      by_cases e1 : k = i
      · subst e1; simp [only, hU, hU', fT, ho, he, hx]
      · simp only [only, hUk k e1]
  · rw [app_m]
    have same : fM E id i = none → gm s.m id = (lastOf (only U' (fM E id)) c).getD (gm st0.m id) := fun hn => by
      rw [hs.m]
      congr 1
      refine lastOf_congr fun k hk => ?_
      by_cases e1 : k = i
      · subst e1; simp [only, hU, hU', hn]
      · simp only [only, hUk k e1]
    cases hm : e.m with
    | none => exact same (by simp [fM, he, hm])
    | some p =>
      obtain ⟨i', b⟩ := p
      simp only
      by_cases hi : i' = id
      · subst hi
        have hw : fM E i' i = some b := by simp [fM, he, hm]
        rw [if_pos rfl, lastOf_at (j := i) (b := b) hiN (by simp [only, hU', hw]) fun k hk hkN => ?_]
        · rfl
        · simp only [only]
          split
          · rename_i hUk'
            rw [hUk k (by omega)] at hUk'
            cases hf : fM E i' k with
            | none => rfl
            | some b' =>
              exfalso
              have hok : ∃ ok, ops[k]? = some ok := by
                cases hE : E[k]? with
                | none => simp [fM, hE] at hf
                | some e' =>
                  have := (List.getElem?_eq_some_iff.1 hE).1
                  exact ⟨ops[k]'(by omega), by simp⟩
              obtain ⟨ok, h1⟩ := hok
              have no : bef ops k i → False := fun hb => by
                have := hdc k i hUk' hb
                rw [hU] at this; cases this
              rcases h.writer ho hw with ⟨g1, g2⟩ | ⟨g1, g2⟩ <;> rcases h.writer h1 hf with ⟨q1, q2⟩ | ⟨q1, q2⟩
              · omega
              · rcases q2 with q2 | q2
                · omega
                · exact no (by rw [g2] at q2; simpa using q2)
              · rcases g2 with g2 | g2
                · omega
                · have := h.lt ho g2
                  omega
              · exact no (h.clash hk ho h1 (clash_mem (memS_store g1) (memS_store q1) (.inl g1)))
          · rfl
      · rw [if_neg hi]
        exact same (by simp [fM, he, hm, hi])

theorem does_congr {site : Nat} {o : Oper} {s s' : St} {e : Eff} (ht : ∀ x, x ∈ looks ops o → gt s.t x = gt s'.t x) (hm : ∀ id, acc o s = some id → gm s.m id = gm s'.m id) (h : Does P S RO ops site o s e) : Does P S RO ops site o s' e := by
  have hv : ∀ x, x ∈ o.op.operands → val s x = val s' x := fun x hx => by
    cases x with
    | tmp t => exact ht t (List.mem_append_left _ (List.mem_filterMap.2 ⟨.tmp t, by simpa using hx, rfl⟩))
    | _ => rfl
  rcases h with ⟨h1, h2⟩ | ⟨g, want, tg, h1, h2, h3⟩
  · exact .inl ⟨h1, (evOp_congr hv hm).symm.trans h2⟩
  · have htg : gt s.t tg = gt s'.t tg := ht tg (List.mem_append_right _ (by simp [h1, h2]))
    refine .inr ⟨g, want, tg, h1, h2, ?_⟩
    rw [← htg]
    exact h3.imp_left fun ⟨q1, q2⟩ => ⟨q1, (evOp_congr hv hm).symm.trans q2⟩
end
end Go.Ev
