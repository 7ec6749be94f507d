/-
  The law WearRates returns true for every climate and all numbers, and leaves its arguments as they were. No conditions.
-/
import Derived.Test.YteclfchlejocmaaEvJ
set_option linter.unusedVariables false
set_option linter.unusedSimpArgs false
namespace Go.Ev
open Go Go.RowKit

variable {P : Program} {w0 : Base} {X D : Nat → Prop} {R : Nat → Option (Nat × Nat)} {st : St} {a : Act} {w : World}
variable {ro : Option Nat} {n : Nat} {Q : Exit → Act → World → Prop} {ρ : Type} {S : Spec} {RO : Nat → Bool}

/-- What follows a piece of code. -/
def Fresh (R : Nat → Option (Nat × Nat)) (nx : Nat) : Prop := ∀ id, nx ≤ id → R id = none

theorem getD_bool {a : Act} {t : Nat} {x : Bool} (h : a.tmps.getD t undef = .bool x) : a.tmps[t]? = some (.bool x) := by
  rw [Array.getD_eq_getD_getElem?] at h
  cases ht : a.tmps[t]? with
  | none => rw [ht] at h; simp [undef] at h
  | some v => rw [ht] at h; simp at h; rw [h]

theorem dst_ok {o : Oper} {nt : Nat} (h : (o.dst.map (Nat.blt · nt)).getD true = true) : ∀ x, o.dst = some x → x < nt := by
  intro x hx
  rw [hx] at h
  simpa [Nat.blt_eq] using h

theorem put_defers (a : Act) (d : Option Nat) (v : Value) : (a.put d v).defers = a.defers := by cases d <;> rfl
/-- A region in the text's order. -/
theorem evOps_sound (hs : SpecOK P S) {ops : Array Oper} {base : Nat} : ∀ (l : List Oper) (j : Nat) {st : St} {a : Act} {w : World} {D : Nat → Prop} {R : Nat → Option (Nat × Nat)} {K : St → Option ρ} {r : ρ} {chk : Nat → Oper → St → Bool}
    (hl : ∀ i, l[i]? = ops[j + i]?) (h : SR P w0 X D R st a w) (hf : Fresh R (base + j)) (he : evOps P S RO ops base chk l j st K = some r)
    (hn : ∀ D' R' st' a' w', SR P w0 X D' R' st' a' w' → Fresh R' (base + j + l.length) → (∀ id, id < base + j → R' id = R id) → a'.defers = a.defers → st'.nx = st.nx → st'.nt = st.nt → K st' = some r → Q .normal a' w'),
    wpOpsIn (FW ro) n P ops Q (List.range' j l.length) a w
  | [], j, st, a, w, D, R, K, r, chk, hl, h, hf, he, hn => hn D R st a w h hf (fun _ _ => rfl) rfl rfl rfl he
  | o :: l, j, st, a, w, D, R, K, r, chk, hl, h, hf, he, hn => by
    have ho : ops[j]? = some o := by have := hl 0; simpa using this.symm
    have hl' : ∀ i, l[i]? = ops[j + 1 + i]? := fun i => by
      have := hl (i + 1)
      simp only [List.getElem?_cons_succ] at this
      rw [this]; congr 1; omega
    simp only [evOps] at he
    obtain ⟨hdst, he⟩ := cond_some he
    have hdst := (Bool.and_eq_true_iff.1 hdst).1
    have hb := dst_ok hdst
    simp only [List.length_cons, List.range'_succ, wpOpsIn, ho]
    -- performing, passing over
    have perform : ∀ {st0 : St}, SR P w0 X D R st0 a w → st0.nx = st.nx → st0.nt = st.nt → evOp P S RO (base + j) o st0 (fun e => evOps P S RO ops base chk l (j + 1) (st0.app o.dst e) K) = some r →
        o.wpIn (FW ro) n P a w (wpOpsIn (FW ro) n P ops Q (List.range' (j + 1) l.length)) Q := by
      intro st0 h0 hx ht he
      refine evOp_sound hs h0 (hf _ (Nat.le_refl _)) (by rw [ht]; exact hb) he fun D' R' e v' w' hS hR hK => ?_
      refine evOps_sound hs l (j + 1) hl' hS (fun id hid => by rw [hR.R id (by omega)]; exact hf id (by omega)) hK fun D'' R'' st'' a'' w'' hS' hf' hRR hdd hx' ht' hK' => ?_
      exact hn D'' R'' st'' a'' w'' hS' (by simpa [Nat.add_assoc, Nat.add_comm 1] using hf') (fun id hid => (hRR id (by omega)).trans (hR.R id (by omega))) (hdd.trans (put_defers _ _ _)) (hx'.trans ((app_nx _ _).trans hx)) (ht'.trans ((app_nt _ _).trans ht)) hK'
    have pass : ∀ {st0 : St}, SR P w0 X D R st0 a w → st0.nx = st.nx → st0.nt = st.nt → evOps P S RO ops base chk l (j + 1) (st0.put o.dst (.tup [])) K = some r →
        (∀ f, o.about P w a.eval = some f → (FW ro).fn f) ∧ wpOpsIn (FW ro) n P ops Q (List.range' (j + 1) l.length) (a.put o.dst undef) w := by
      intro st0 h0 hx ht he
      refine ⟨fun _ _ => trivial, evOps_sound hs l (j + 1) hl' (h0.put (by rw [ht]; exact hb) VR_undef) (fun id hid => hf id (by omega)) he fun D'' R'' st'' a'' w'' hS' hf' hRR hdd hx' ht' hK' => ?_⟩
      exact hn D'' R'' st'' a'' w'' hS' (by simpa [Nat.add_assoc, Nat.add_comm 1] using hf') (fun id hid => hRR id (by omega)) (hdd.trans (put_defers _ _ _)) (hx'.trans ((put_nx _ _).trans hx)) (ht'.trans ((put_nt _ _).trans ht)) hK'
    cases hg : o.guard with
    | none =>
      rw [hg] at he
      have hw : Region.wanted o (yielded ops a.tmps) = true := by simp [Region.wanted, hg]
      rw [if_pos hw]
      exact perform h rfl rfl he
    | some gw =>
      obtain ⟨g, want⟩ := gw
      rw [hg] at he
      simp only at he
      cases htg : (ops[g]?).bind (·.dst) with
      | none => rw [htg] at he; cases he
      | some tg =>
        rw [htg] at he
        simp only at he
        have hv := h.tmp tg
        split at he
        · rename_i x hx
          rw [hx] at hv
          have hb1 := hv.bool_inv
          have hb2 := getD_bool hb1
          have hy : yielded ops a.tmps g = some x := by simp [yielded, htg, hb2]
          have hwant : Region.wanted o (yielded ops a.tmps) = (x == want) := by simp [Region.wanted, hg, hy]
          cases x
          · simp only [cond_false] at he
            have hk := h.know (d := tg) (v := .b false) (by rw [hb1]; exact .b)
            cases want
            · rw [if_pos (by rw [hwant]; rfl)]
              exact perform hk rfl rfl he
            · rw [if_neg (by rw [hwant]; decide)]
              exact pass hk rfl rfl he
          · simp only [cond_true] at he
            have hk := h.know (d := tg) (v := .b true) (by rw [hb1]; exact .b)
            cases want
            · rw [if_neg (by rw [hwant]; decide)]
              exact pass hk rfl rfl he
            · rw [if_pos (by rw [hwant]; rfl)]
              exact perform hk rfl rfl he
        · rename_i hx
          rw [hx] at hv
          have hy : yielded ops a.tmps g = none := by
            generalize hq : a.tmps.getD tg Go.undef = q at hv
            cases hv with
            | tup h1 _ =>
              simp only [yielded, htg, Option.bind_some]
              rw [Array.getD_eq_getD_getElem?] at hq
              cases ht : a.tmps[tg]? with
              | none => rfl
              | some z => rw [ht] at hq; simp at hq; subst hq; rfl
          have hwant : Region.wanted o (yielded ops a.tmps) = false := by simp [Region.wanted, hg, hy]
          rw [if_neg (by rw [hwant]; decide)]
          exact pass h rfl rfl he
        · cases he
end Go.Ev
