/-
  The law WearRates returns true for every climate and all numbers, and leaves its arguments as they were. No conditions.
-/
import Derived.Test.YteclfchlejocmaaEvN
set_option linter.unusedVariables false
set_option linter.unusedSimpArgs false
namespace Go.Ev
open Go Go.RowKit

variable {P : Program} {w0 : Base} {X D : Nat → Prop} {R : Nat → Option (Nat × Nat)} {st : St} {a : Act} {w : World}
variable {ro : Option Nat} {n : Nat} {Q : Exit → Act → World → Prop} {ρ : Type} {S : Spec} {RO : Nat → Bool}

/-- An operation's effect, guarded as it is. -/
def Does (P : Program) (S : Spec) (RO : Nat → Bool) (ops : Array Oper) (site : Nat) (o : Oper) (st : St) (e : Eff) : Prop :=
  (o.guard = none ∧ evOp P S RO site o st some = some e) ∨
  (∃ g want tg, o.guard = some (g, want) ∧ (ops[g]?).bind (·.dst) = some tg ∧
    ((gt st.t tg = .b want ∧ evOp P S RO site o st some = some e) ∨
     ((gt st.t tg = .b (!want) ∨ gt st.t tg = .tup []) ∧ e = ⟨.tup [], none⟩)))

def fT (ops : Array Oper) (E : List Eff) (x : Nat) (i : Nat) : Option AV :=
  match ops[i]?, E[i]? with
  | some o, some e => if o.dst = some x then some e.v else none
  | _, _ => none
def fM (E : List Eff) (id : Nat) (i : Nat) : Option Blk :=
  match E[i]? with
  | some e => match e.m with
    | some (id', b) => if id' = id then some b else none
    | none => none
  | none => none
def only {β : Type} (U : Nat → Bool) (f : Nat → Option β) (i : Nat) : Option β := if U i = true then f i else none
/-- The state after those of 'U' among the first n. -/
structure Stn (ops : Array Oper) (E : List Eff) (st0 : St) (U : Nat → Bool) (n : Nat) (s : St) : Prop where
  t : ∀ x, gt s.t x = (lastOf (only U (fT ops E x)) n).getD (gt st0.t x)
  m : ∀ id, gm s.m id = (lastOf (only U (fM E id)) n).getD (gm st0.m id)
  nx : s.nx = st0.nx
  nt : s.nt = st0.nt
def every : Nat → Bool := fun _ => true

theorem Stn.eqv {ops : Array Oper} {E : List Eff} {st0 : St} {U : Nat → Bool} {n : Nat} {s s' : St} (h : Stn ops E st0 U n s) (he : Eqv s s') : Stn ops E st0 U n s' :=
  ⟨fun x => by rw [← he.t]; exact h.t x, fun x => by rw [← he.m]; exact h.m x, he.nx.symm.trans h.nx, he.nt.symm.trans h.nt⟩
theorem Stn.congr {ops : Array Oper} {E E' : List Eff} {st0 : St} {U : Nat → Bool} {n : Nat} {s : St} (h : Stn ops E st0 U n s) (he : ∀ i, i < n → E[i]? = E'[i]?) : Stn ops E' st0 U n s := by
  refine ⟨fun x => ?_, fun id => ?_, h.nx, h.nt⟩
  · rw [h.t, lastOf_congr fun i hi => ?_]
    simp only [only, fT, he i hi]
  · rw [h.m, lastOf_congr fun i hi => ?_]
    simp only [only, fM, he i hi]

def Path (P : Program) (S : Spec) (RO : Nat → Bool) (ops : Array Oper) (base : Nat) (chk : Nat → Oper → St → Bool) (st0 : St) {ρ : Type} (K : St → Option ρ) (r : ρ) (E0 : List Eff) (j m : Nat) : Prop :=
    ∃ E, (∀ i, i < j → E[i]? = E0[i]?) ∧ E.length = m ∧
      (∀ i o, j ≤ i → i < m → ops[i]? = some o → ∃ e s, E[i]? = some e ∧ Stn ops E st0 every i s ∧ Does P S RO ops (base + i) o s e ∧ chk i o s = true ∧ (∀ x, o.dst = some x → x < st0.nt)) ∧
      ∃ s, Stn ops E st0 every m s ∧ K s = some r
theorem evOps_path {ops : Array Oper} {base : Nat} {chk : Nat → Oper → St → Bool} {st0 : St} {K : St → Option ρ} {r : ρ} :
    ∀ (l : List Oper) (j : Nat) (st : St) (E0 : List Eff), (∀ i, i < l.length → l[i]? = ops[j + i]?) → E0.length = j → Stn ops E0 st0 every j st → evOps P S RO ops base chk l j st K = some r →
    Path P S RO ops base chk st0 K r E0 j (j + l.length)
  | [], j, st, E0, hl, hE, hS, he => by
    refine ⟨E0, fun _ _ => rfl, by simpa using hE, fun i o hi hm ho => ?_, st, by simpa using hS, he⟩
    simp at hm; omega
  | o :: l, j, st, E0, hl, hE, hS, he => by
    have ho : ops[j]? = some o := by have := hl 0 (by simp); simpa using this.symm
    have hl' : ∀ i, i < l.length → l[i]? = ops[j + 1 + i]? := fun i hi => by
      have := hl (i + 1) (by simpa using hi)
      simp only [List.getElem?_cons_succ] at this
      rw [this]; congr 1; omega
    simp only [evOps] at he
    obtain ⟨hdst, he⟩ := cond_some he
    obtain ⟨hdst, hchk⟩ := Bool.and_eq_true_iff.1 hdst
    have hb := dst_ok hdst
    rw [hS.nt] at hb
    -- one step
    have step : ∀ (e : Eff) (s1 : St), Eqv s1 (st.app o.dst e) → Does P S RO ops (base + j) o st e → evOps P S RO ops base chk l (j + 1) s1 K = some r →
        Path P S RO ops base chk st0 K r E0 j (j + (o :: l).length) := by
      intro e s1 hs1 hdo hev
      have hj : (E0 ++ [e])[j]? = some e := by simp [← hE]
      have hlt : ∀ i, i < j → (E0 ++ [e])[i]? = E0[i]? := fun i hi => by simp [List.getElem?_append, hE, hi]
      have hS1 : Stn ops (E0 ++ [e]) st0 every (j + 1) s1 := by
        have hS' : Stn ops (E0 ++ [e]) st0 every j st := hS.congr fun i hi => (hlt i hi).symm
        refine Stn.eqv ⟨fun x => ?_, fun id => ?_, by rw [app_nx]; exact hS.nx, by rw [app_nt]; exact hS.nt⟩ hs1.symm
        · rw [app_t, hS'.t]
          simp only [lastOf, only, every, fT, ho, hj, if_true]
          by_cases hx : o.dst = some x <;> simp [hx]
        · rw [app_m, hS'.m]
          simp only [lastOf, only, every, fM, hj, if_true]
          cases e.m with
          | none => rfl
          | some p =>
            obtain ⟨i, b⟩ := p
            by_cases hx : i = id <;> simp [hx]
      obtain ⟨E, h1, h2, h3, s, h4, h5⟩ := evOps_path l (j + 1) s1 (E0 ++ [e]) hl' (by simp [hE]) hS1 hev
      have hEj : E[j]? = some e := (h1 j (by omega)).trans hj
      refine ⟨E, fun i hi => (h1 i (by omega)).trans (hlt i hi), by rw [h2]; simp; omega, fun i o' hi hm ho' => ?_, s, by rw [List.length_cons]; rw [show j + (l.length + 1) = j + 1 + l.length by omega]; exact h4, h5⟩
      by_cases e1 : i = j
      · subst e1
        have e2 : o = o' := by rw [ho] at ho'; exact Option.some.inj ho'
        subst e2
        exact ⟨e, st, hEj, hS.congr fun k hk => ((h1 k (by omega)).trans (hlt k hk)).symm, hdo, hchk, hb⟩
      · exact h3 i o' (by omega) (by simp at hm; omega) ho'
    have dir : ∀ {s : St}, Eqv s st → evOp P S RO (base + j) o s (fun e => evOps P S RO ops base chk l (j + 1) (s.app o.dst e) K) = some r →
        ∃ e, evOp P S RO (base + j) o st some = some e ∧ evOps P S RO ops base chk l (j + 1) (s.app o.dst e) K = some r := by
      intro s hs h
      rw [evOp_bind] at h
      obtain ⟨e, h1, h2⟩ := Option.bind_eq_some_iff.1 h
      exact ⟨e, (evOp_congr (fun x _ => (hs.symm.val x)) (fun id _ => hs.symm.m id)).trans h1, h2⟩
    cases hg : o.guard with
    | none =>
      rw [hg] at he
      obtain ⟨e, h1, h2⟩ := dir (Eqv.refl st) he
      exact step e _ (Eqv.refl _) (.inl ⟨hg, h1⟩) h2
    | some gw =>
      obtain ⟨g, want⟩ := gw
      rw [hg] at he
      simp only at he
      cases htg : (ops[g]?).bind (·.dst) with
      | none => rw [htg] at he; cases he
      | some tg =>
        rw [htg] at he
        simp only at he
        have perform : ∀ {x : Bool}, gt st.t tg = .b x → x = want → evOp P S RO (base + j) o (st.put (some tg) (.b x)) (fun e => evOps P S RO ops base chk l (j + 1) ((st.put (some tg) (.b x)).app o.dst e) K) = some r → Path P S RO ops base chk st0 K r E0 j (j + (o :: l).length) := by
          intro x hx hw h
          have hq := put_know hx
          obtain ⟨e, h1, h2⟩ := dir hq h
          exact step e _ (hq.app _ _) (.inr ⟨g, want, tg, hg, htg, .inl ⟨by rw [hx, hw], h1⟩⟩) h2
        have pass : ∀ {x : Bool}, gt st.t tg = .b x → x = !want → evOps P S RO ops base chk l (j + 1) ((st.put (some tg) (.b x)).put o.dst (.tup [])) K = some r → Path P S RO ops base chk st0 K r E0 j (j + (o :: l).length) := by
          intro x hx hw h
          have hq := put_know hx
          exact step ⟨.tup [], none⟩ _ (hq.app o.dst ⟨.tup [], none⟩) (.inr ⟨g, want, tg, hg, htg, .inr ⟨.inl (by rw [hx, hw]), rfl⟩⟩) h
        split at he
        · rename_i x hx
          cases x <;> cases want <;> simp only [cond_true, cond_false] at he
          · exact perform hx rfl he
          · exact pass hx rfl he
          · exact pass hx rfl he
          · exact perform hx rfl he
        · rename_i hx
          exact step ⟨.tup [], none⟩ _ (Eqv.refl _) (.inr ⟨g, want, tg, hg, htg, .inr ⟨.inr hx, rfl⟩⟩) he
        · cases he

theorem evOps_path_take {ops : Array Oper} {base c : Nat} {chk : Nat → Oper → St → Bool} {st : St} {K : St → Option ρ} {r : ρ} (hc : c ≤ ops.size) (h0 : Stn ops [] st every 0 st) (he : evOps P S RO ops base chk (ops.toList.take c) 0 st K = some r) :
    ∃ E, E.length = c ∧ (∀ i o, i < c → ops[i]? = some o → ∃ e s, E[i]? = some e ∧ Stn ops E st every i s ∧ Does P S RO ops (base + i) o s e ∧ chk i o s = true ∧ (∀ x, o.dst = some x → x < st.nt)) ∧
      ∃ s, Stn ops E st every c s ∧ K s = some r := by
  have hl : (ops.toList.take c).length = c := by simp; omega
  obtain ⟨E, _, h2, h3, s, h4, h5⟩ := evOps_path (ops.toList.take c) 0 st [] (fun i hi => by
    rw [hl] at hi
    simp [List.getElem?_take, hi]) rfl h0 he
  rw [Nat.zero_add, hl] at h2 h4
  exact ⟨E, h2, fun i o hi ho => h3 i o (Nat.zero_le _) (by omega) ho, s, h4, h5⟩
end Go.Ev
