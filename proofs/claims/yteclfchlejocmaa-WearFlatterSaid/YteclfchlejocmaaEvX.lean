/-
  The law WearRates returns true for every climate and all numbers, and leaves its arguments as they were. No conditions.
-/
import Derived.Test.YteclfchlejocmaaEvM
set_option linter.unusedVariables false
set_option linter.unusedSimpArgs false
namespace Go.Ev
open Go Go.RowKit

variable {P : Program} {S : Spec} {RO : Nat → Bool} {L L' : LSpec} {ρ : Type}

theorem evOps_bind {all : Array Oper} {base : Nat} {chk : Nat → Oper → St → Bool} : ∀ (l : List Oper) (j : Nat) (st : St) (K : St → Option ρ), evOps P S RO all base chk l j st K = (evOps P S RO all base chk l j st some).bind K
  | [], j, st, K => rfl
  | o :: l, j, st, K => by
    have key : ∀ (s : St), (evOp P S RO (base + j) o s fun e => evOps P S RO all base chk l (j + 1) (s.app o.dst e) K) = (evOp P S RO (base + j) o s fun e => evOps P S RO all base chk l (j + 1) (s.app o.dst e) some).bind K := by
      intro s
      rw [evOp_bind, evOp_bind (K := fun e => evOps P S RO all base chk l (j + 1) (s.app o.dst e) some), Option.bind_assoc]
      congr 1
      funext e
      exact evOps_bind l (j + 1) _ K
    simp only [evOps]
    rw [cond_bind]
    congr 1
    cases o.guard with
    | none => exact key st
    | some gw =>
      obtain ⟨g, want⟩ := gw
      simp only
      cases (all[g]?).bind (·.dst) with
      | none => rfl
      | some tg =>
        simp only
        split
        · rw [cond_bind, cond_bind, cond_bind, key, key, ← evOps_bind l, ← evOps_bind l]
        · exact evOps_bind l (j + 1) _ K
        · rfl

theorem evC_mono (hL : ∀ p st x, L p st = some x → L' p st = some x) : ∀ (c : Code) (p : Pl) (ρ : Type) (st : St) (K K' : Ex → St → Option ρ) (r : ρ), (∀ e s r, K e s = some r → K' e s = some r) → evC P S RO L c p st K = some r → evC P S RO L' c p st K' = some r := by
  intro c
  induction c with
  | skip => intro p ρ st K K' r hK h; exact hK _ _ _ h
  | exit id => intro p ρ st K K' r hK h; exact hK _ _ _ h
  | ret => intro p ρ st K K' r hK h; exact hK _ _ _ h
  | region id ops draw =>
    intro p ρ st K K' r hK h
    simp only [evC] at h ⊢
    obtain ⟨h1, h2⟩ := cond_some h
    rw [h1, cond_true]
    rw [evOps_bind] at h2 ⊢
    obtain ⟨s, q1, q2⟩ := Option.bind_eq_some_iff.1 h2
    rw [q1]
    exact hK _ _ _ q2
  | seq a b iha ihb =>
    intro p ρ st K K' r hK h
    simp only [evC] at h ⊢
    refine iha _ ρ st _ _ r (fun e s r he => ?_) h
    cases e with
    | nrm => exact ihb _ ρ s _ _ r hK he
    | ext id => exact hK _ _ _ he
    | ret => exact hK _ _ _ he
  | cond c a b iha ihb =>
    intro p ρ st K K' r hK h
    simp only [evC] at h ⊢
    split at h
    · rename_i t x hx
      cases x
      · exact ihb _ ρ _ _ _ r hK h
      · exact iha _ ρ _ _ _ r hK h
    · rename_i x _ hx
      cases x
      · exact ihb _ ρ _ _ _ r hK h
      · exact iha _ ρ _ _ _ r hK h
    · cases h
  | block id c ih =>
    intro p ρ st K K' r hK h
    simp only [evC] at h ⊢
    refine ih _ ρ st _ _ r (fun e s r he => ?_) h
    cases e with
    | nrm => exact hK _ _ _ he
    | ret => exact hK _ _ _ he
    | ext j =>
      simp only at he ⊢
      cases hj : Nat.beq j id <;> rw [hj] at he <;> exact hK _ _ _ he
  | loop c ih =>
    intro p ρ st K K' r hK h
    simp only [evC] at h ⊢
    cases hl : L p st with
    | none => rw [hl] at h; cases h
    | some x =>
      obtain ⟨pre, e, s⟩ := x
      rw [hl] at h
      rw [hL _ _ _ hl]
      obtain ⟨h1, h2⟩ := cond_some h
      simp only [h1, cond_true]
      exact hK _ _ _ h2
  | rangeFunc g ps a b iha ihb =>
    intro p ρ st K K' r hK h
    simp only [evC] at h ⊢
    cases hl : L p st with
    | none => rw [hl] at h; cases h
    | some x =>
      obtain ⟨pre, e, s⟩ := x
      rw [hl] at h
      rw [hL _ _ _ hl]
      obtain ⟨h1, h2⟩ := cond_some h
      simp only [h1, cond_true]
      exact hK _ _ _ h2
  | _ => intro p ρ st K K' r hK h; simp [evC] at h

theorem round_mono (hL : ∀ p st x, L p st = some x → L' p st = some x) {c : Code} {p : Pl} {keep : List Nat} {nb : Nat} {st : St} {x : Ex × St} (h : round P S RO L c p keep nb st = some x) : round P S RO L' c p keep nb st = some x :=
  evC_mono hL _ _ _ _ _ _ _ (fun _ _ _ h => h) h
theorem roundF_mono (hL : ∀ p st x, L p st = some x → L' p st = some x) {ps : List Nat} {a b : Code} {p : Pl} {nb : Nat} {st : St} {x : List AV} {r : Ex × St} (h : roundF P S RO L ps a b p nb st x = some r) : roundF P S RO L' ps a b p nb st x = some r := by
  unfold roundF at h ⊢
  refine evC_mono hL _ _ _ _ _ _ _ (fun e s r h => ?_) h
  cases e with
  | nrm => exact evC_mono hL _ _ _ _ _ _ _ (fun _ _ _ h => h) h
  | ext id => cases h
  | ret => cases h

/-! ### Loops that are run -/
def locate : Code → List Bool → Option Code
  | c, [] => some c
  | .seq a _, false :: l => locate a l
  | .seq _ b, true :: l => locate b l
  | .cond _ a _, false :: l => locate a l
  | .cond _ _ b, true :: l => locate b l
  | .block _ c, false :: l => locate c l
  | .loop c, false :: l => locate c l
  | .rangeFunc _ _ a _, false :: l => locate a l
  | .rangeFunc _ _ _ b, true :: l => locate b l
  | _, _ => none
def runLoop (rnd : St → Option (Ex × St)) : Nat → St → Option (Bool × Ex × St)
  | 0, _ => none
  | n + 1, st => match rnd st with
    | some (.nrm, s) => runLoop rnd n s
    | some (e, s) => some (true, e, s)
    | none => none
def runXs (rnd : St → List AV → Option (Ex × St)) : St → List (List AV) → Option (Bool × Ex × St)
  | st, [] => some (true, .nrm, st)
  | st, x :: xs => match rnd st x with
    | some (.nrm, s) => runXs rnd s xs
    | some (e, s) => some (true, e, s)
    | none => none
/-- What iterators hand out. -/
abbrev ISpec := FuncId → List AV → Option (List (List AV))
def IOK (P : Program) (I : ISpec) : Prop := ∀ g caps xs, I g caps = some xs → SeqCon P g caps xs
def autoL (P : Program) (S : Spec) (RO : Nat → Bool) (I : ISpec) (root : Code) (iters : Nat) : Nat → LSpec
  | 0, _, _ => none
  | d + 1, p, st => match locate root p.reverse with
    | some (.loop c) => runLoop (fun s => round P S RO (autoL P S RO I root iters d) c p (List.range st.nt) st.nx s) iters st
    | some (.rangeFunc g ps assign body) => match val st g with
      | .fn gf caps => match I gf caps, norm P (List.range st.nt) st.nx st with
        | some xs, some st1 => cond (freeL P 0 caps && (xs.all (fun x => Nat.beq x.length ps.size) && ps.toList.all (Nat.blt · st.nt))) (runXs (roundF P S RO (autoL P S RO I root iters d) ps.toList assign body p st.nx) st1 xs) none
        | _, _ => none
      | _ => none
    | _ => none

theorem runLoop_mono {f g : St → Option (Ex × St)} (h : ∀ s y, f s = some y → g s = some y) {x : Bool × Ex × St} : ∀ (n : Nat) (s : St), runLoop f n s = some x → runLoop g n s = some x
  | 0, s, hx => by cases hx
  | n + 1, s, hx => by
    simp only [runLoop] at hx ⊢
    cases hr : f s with
    | none => rw [hr] at hx; cases hx
    | some y =>
      rw [hr] at hx
      rw [h _ _ hr]
      obtain ⟨e, s'⟩ := y
      cases e <;> first | exact runLoop_mono h n s' hx | exact hx
theorem runXs_mono {f g : St → List AV → Option (Ex × St)} (h : ∀ s a y, f s a = some y → g s a = some y) {x : Bool × Ex × St} : ∀ (xs : List (List AV)) (s : St), runXs f s xs = some x → runXs g s xs = some x
  | [], s, hx => hx
  | a :: xs, s, hx => by
    simp only [runXs] at hx ⊢
    cases hr : f s a with
    | none => rw [hr] at hx; cases hx
    | some y =>
      rw [hr] at hx
      rw [h _ _ _ hr]
      obtain ⟨e, s'⟩ := y
      cases e <;> first | exact runXs_mono h xs s' hx | exact hx

theorem autoL_mono (I : ISpec) (root : Code) (iters : Nat) : ∀ (d : Nat) p st x, autoL P S RO I root iters d p st = some x → autoL P S RO I root iters (d + 1) p st = some x
  | 0, p, st, x, h => by cases h
  | d + 1, p, st, x, h => by
    have ih := autoL_mono I root iters d
    rw [autoL] at h ⊢
    split at h
    · exact runLoop_mono (fun s y hy => round_mono ih hy) _ _ h
    · split at h
      · split at h
        · obtain ⟨h1, h2⟩ := cond_some h
          rw [h1, cond_true]
          exact runXs_mono (fun s a y hy => roundF_mono ih hy) _ _ h2
        · cases h
      · cases h
    · cases h

theorem runLoop_LB {c : Code} {p : Pl} {keep : List Nat} {nb : Nat} {e : Ex} {s' : St} {pre : Bool} : ∀ (n : Nat) (s : St), runLoop (fun s => round P S RO L c p keep nb s) n s = some (pre, e, s') → LB P S RO L c p keep nb s e s'
  | 0, s, hx => by cases hx
  | n + 1, s, hx => by
    simp only [runLoop] at hx
    cases hr : round P S RO L c p keep nb s with
    | none => rw [hr] at hx; cases hx
    | some y =>
      rw [hr] at hx
      obtain ⟨e1, s1⟩ := y
      cases e1 with
      | nrm => exact .more hr (runLoop_LB n s1 hx)
      | ret =>
        simp only [Option.some.injEq, Prod.mk.injEq] at hx
        obtain ⟨_, rfl, rfl⟩ := hx
        exact .stop hr (by simp)
      | ext id =>
        simp only [Option.some.injEq, Prod.mk.injEq] at hx
        obtain ⟨_, rfl, rfl⟩ := hx
        exact .stop hr (by simp)
theorem runXs_Rounds {ps : List Nat} {a b : Code} {p : Pl} {nb : Nat} {e : Ex} {s' : St} {pre : Bool} : ∀ (xs : List (List AV)) (s : St), runXs (roundF P S RO L ps a b p nb) s xs = some (pre, e, s') → Rounds P S RO L ps a b p nb s xs e s'
  | [], s, hx => by
    simp only [runXs, Option.some.injEq, Prod.mk.injEq] at hx
    obtain ⟨_, rfl, rfl⟩ := hx
    exact .done
  | x :: xs, s, hx => by
    simp only [runXs] at hx
    cases hr : roundF P S RO L ps a b p nb s x with
    | none => rw [hr] at hx; cases hx
    | some y =>
      rw [hr] at hx
      obtain ⟨e1, s1⟩ := y
      cases e1 with
      | nrm => exact .go hr (runXs_Rounds xs s1 hx)
      | ret =>
        simp only [Option.some.injEq, Prod.mk.injEq] at hx
        obtain ⟨_, rfl, rfl⟩ := hx
        exact .out hr (by simp)
      | ext id =>
        simp only [Option.some.injEq, Prod.mk.injEq] at hx
        obtain ⟨_, rfl, rfl⟩ := hx
        exact .out hr (by simp)
theorem LB_mono (hL : ∀ p st x, L p st = some x → L' p st = some x) {c : Code} {p : Pl} {keep : List Nat} {nb : Nat} {s : St} {e : Ex} {s' : St} (h : LB P S RO L c p keep nb s e s') : LB P S RO L' c p keep nb s e s' := by
  induction h with
  | stop h1 h2 => exact .stop (round_mono hL h1) h2
  | more h1 _ ih => exact .more (round_mono hL h1) ih
  | enter h1 _ ih => exact .enter h1 ih
theorem Rounds_mono (hL : ∀ p st x, L p st = some x → L' p st = some x) {ps : List Nat} {a b : Code} {p : Pl} {nb : Nat} {s : St} {xs : List (List AV)} {e : Ex} {s' : St} (h : Rounds P S RO L ps a b p nb s xs e s') : Rounds P S RO L' ps a b p nb s xs e s' := by
  induction h with
  | done => exact .done
  | go h1 _ ih => exact .go (roundF_mono hL h1) ih
  | out h1 h2 => exact .out (roundF_mono hL h1) h2

/-- No range over a function within another. -/
def nest : Bool → Code → Bool
  | nr, .seq a b => nest nr a && nest nr b
  | nr, .cond _ a b => nest nr a && nest nr b
  | nr, .block _ c => nest nr c
  | nr, .loop c => nest nr c
  | nr, .rangeFunc _ _ a b => !nr && (nest true a && nest true b)
  | _, _ => true
theorem locate_nil (c : Code) : locate c [] = some c := by cases c <;> rfl
theorem locate_snoc : ∀ (l : List Bool) (c : Code) (b : Bool) {c' : Code}, locate c l = some c' → locate c (l ++ [b]) = locate c' [b]
  | [], c, b, c', h => by rw [locate_nil] at h; cases h; rfl
  | b0 :: l, c, b, c', h => by
    cases c <;> cases b0 <;> simp only [locate, List.cons_append] at h ⊢ <;> first | (cases h; done) | exact locate_snoc l _ b h

theorem lok_auto {I : ISpec} (hI : IOK P I) (root : Code) (iters D : Nat) : ∀ (c : Code) (p : Pl) (lo : Nat) (nr : Bool), locate root p.reverse = some c → nest nr c = true → LOK P S RO (autoL P S RO I root iters D) lo nr c p := by
  intro c
  induction c with
  | seq a b iha ihb =>
    intro p lo nr h hn
    simp only [nest, Bool.and_eq_true] at hn
    exact ⟨iha _ lo nr (by rw [List.reverse_cons, locate_snoc _ _ _ h]; simp [locate, locate_nil]) hn.1, ihb _ lo nr (by rw [List.reverse_cons, locate_snoc _ _ _ h]; simp [locate, locate_nil]) hn.2⟩
  | cond c a b iha ihb =>
    intro p lo nr h hn
    simp only [nest, Bool.and_eq_true] at hn
    exact ⟨iha _ lo nr (by rw [List.reverse_cons, locate_snoc _ _ _ h]; simp [locate, locate_nil]) hn.1, ihb _ lo nr (by rw [List.reverse_cons, locate_snoc _ _ _ h]; simp [locate, locate_nil]) hn.2⟩
  | block id c ih =>
    intro p lo nr h hn
    exact ih _ lo nr (by rw [List.reverse_cons, locate_snoc _ _ _ h]; simp [locate, locate_nil]) hn
  | loop c ih =>
    intro p lo nr h hn
    refine ⟨fun st e s hlo hl => ?_, ih _ lo nr (by rw [List.reverse_cons, locate_snoc _ _ _ h]; simp [locate, locate_nil]) hn⟩
    cases D with
    | zero => cases hl
    | succ d =>
      refine ⟨List.range st.nt, st.nx, hlo, ?_⟩
      rw [autoL, h] at hl
      exact LB_mono (autoL_mono I root iters d) (runLoop_LB _ _ hl)
  | rangeFunc g ps a b iha ihb =>
    intro p lo nr h hn
    simp only [nest, Bool.and_eq_true, Bool.not_eq_true'] at hn
    refine ⟨hn.1, fun st e s hlo hl => ?_, fun nb => iha _ nb true (by rw [List.reverse_cons, locate_snoc _ _ _ h]; simp [locate, locate_nil]) hn.2.1, fun nb => ihb _ nb true (by rw [List.reverse_cons, locate_snoc _ _ _ h]; simp [locate, locate_nil]) hn.2.2⟩
    cases D with
    | zero => cases hl
    | succ d =>
      refine ⟨List.range st.nt, st.nx, hlo, ?_⟩
      rw [autoL, h] at hl
      simp only at hl
      split at hl
      · rename_i gf caps hv
        split at hl
        · rename_i xs st1 hxs hno
          obtain ⟨h1, h2⟩ := cond_some hl
          simp only [Bool.and_eq_true] at h1
          refine ⟨gf, caps, xs, st1, hv, h1.1, hI _ _ _ hxs, fun x hx => ?_, fun q hq => ?_, hno, Rounds_mono (autoL_mono I root iters d) (runXs_Rounds _ _ h2)⟩
          · have := List.all_eq_true.1 h1.2.1 x hx
            simpa using Nat.eq_of_beq_eq_true this
          · have := List.all_eq_true.1 h1.2.2 q hq
            simpa [Nat.blt_eq] using this
        · cases hl
      · cases hl
  | _ => intros; trivial

/-- Functions that are run, d calls deep. -/
def runS (P : Program) (I : ISpec) (RO : FuncId → Nat → Bool) (over : Spec) (iters dl : Nat) : Nat → Spec
  | 0 => over
  | d + 1 => fun f args => match over f args with
    | some r => some r
    | none => match P.funcs[f]? with
      | some fn => match fn.body with
        | some c => cond (nest false c) (match evF P (runS P I RO over iters dl d) (RO f) (autoL P (runS P I RO over iters dl d) (RO f) I c iters dl) fn args with
          | some v => some (true, v)
          | none => none) none
        | none => none
      | none => none
theorem runS_ok {I : ISpec} (hI : IOK P I) (hm : P.follows .mixedOrders = true) (hnames : ∀ (f : FuncId) (fn : Func), P.funcs[f]? = some fn → (fn.name == "runtime.NumGoroutine") = false) {ro : FuncId → Nat → Bool} {over : Spec} (ho : SpecOK P over) {iters dl : Nat} : ∀ d, SpecOK P (runS P I ro over iters dl d)
  | 0 => ho
  | d + 1 => by
    intro f args pre v h hp
    simp only [runS] at h
    split at h
    · rename_i r hr
      obtain rfl : r = (pre, v) := by simpa using h
      exact ho f args pre v hr hp
    · split at h
      · rename_i fn hfn
        split at h
        · rename_i c hc
          obtain ⟨h1, h2⟩ := cond_some h
          split at h2
          · rename_i v' hv
            simp only [Option.some.injEq, Prod.mk.injEq] at h2
            obtain ⟨_, rfl⟩ := h2
            exact con_of (runS_ok hI hm hnames ho d) hm hfn hc (hnames f fn hfn) (lok_auto hI c iters dl c [] 0 false (locate_nil c) h1) hv
          · cases h2
        · cases h
      · cases h
end Go.Ev
