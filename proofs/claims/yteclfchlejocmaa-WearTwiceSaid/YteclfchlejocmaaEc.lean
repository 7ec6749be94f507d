/-
  Two seasons take what one takes that takes both their spans, as far as nothing is gone below 0, and a season that takes nothing changes nothing, for every skin and any two seasons (statement WearTwice); this text is a part of that proof.
-/
import Derived.Test.YteclfchlejocmaaEb
import Derived.Carry
import Derived.ChangeOld
import Derived.ChangeShapes
import Derived.OpenShut
import Derived.SizedLaws
set_option linter.unusedVariables false
set_option linter.unusedVariables false
set_option linter.unusedSimpArgs false
namespace Go.Ev
open Go Go.RowKit

variable {P : Program} {S : Spec} {RO : Nat → Bool} {L L' : LSpec} {ρ : Type}

theorem evOps_bind {all : Array Oper} {base : Nat} {chk : Nat → Oper → St → Bool} : ∀ (l : List Oper) (j : Nat) (st : St) (K : St → Option ρ), evOps P S RO all base chk l j st K = (evOps P S RO all base chk l j st some).bind K
  | [], j, st, K => rfl
  | o :: l, j, st, K => by
    have key : ∀ (s : St), (evOp P S RO (base + j) o s fun e => evOps P S RO all base chk l (j + 1) (s.app o.dst e) K) = (evOp P S RO (base + j) o s fun e => evOps P S RO all base chk l (j + 1) (s.app o.dst e) some).bind K := by
      intro s
      rw [evOp_bind, evOp_bind (K := fun e => evOps P S RO all base chk l (j + 1) (s.app o.dst e) some), Option.bind_assoc]
      congr 1
      funext e
      exact evOps_bind l (j + 1) _ K
    simp only [evOps]
    rw [cond_bind]
    congr 1
    cases o.guard with
    | none => exact key st
    | some gw =>
      obtain ⟨g, want⟩ := gw
      simp only
      cases (all[g]?).bind (·.dst) with
      | none => rfl
      | some tg =>
        simp only
        split
        · rw [cond_bind, cond_bind, cond_bind, key, key, ← evOps_bind l, ← evOps_bind l]
        · exact evOps_bind l (j + 1) _ K
        · rfl

theorem pickK_mono {K K' : Ex → St → Option ρ} {r : ρ} (hK : ∀ e s r, K e s = some r → K' e s = some r) : ∀ {outs : List (Bool × Ex × St)}, pickK K outs = some r → pickK K' outs = some r
  | [], h => by cases h
  | (g, e, s) :: outs, h => by
    simp only [pickK] at h ⊢
    cases g
    · exact pickK_mono hK (outs := outs) h
    · exact hK _ _ _ h
theorem evC_mono (hL : ∀ p st x, L p st = some x → L' p st = some x) : ∀ (c : Code) (p : Pl) (ρ : Type) (st : St) (K K' : Ex → St → Option ρ) (r : ρ), (∀ e s r, K e s = some r → K' e s = some r) → evC P S RO L c p st K = some r → evC P S RO L' c p st K' = some r := by
  intro c
  induction c with
  | skip => intro p ρ st K K' r hK h; exact hK _ _ _ h
  | exit id => intro p ρ st K K' r hK h; exact hK _ _ _ h
  | ret => intro p ρ st K K' r hK h; exact hK _ _ _ h
  | region id ops draw =>
    intro p ρ st K K' r hK h
    simp only [evC] at h ⊢
    obtain ⟨h1, h2⟩ := cond_some h
    rw [h1, cond_true]
    rw [evOps_bind] at h2 ⊢
    obtain ⟨s, q1, q2⟩ := Option.bind_eq_some_iff.1 h2
    rw [q1]
    exact hK _ _ _ q2
  | seq a b iha ihb =>
    intro p ρ st K K' r hK h
    simp only [evC] at h ⊢
    refine iha _ ρ st _ _ r (fun e s r he => ?_) h
    cases e with
    | nrm => exact ihb _ ρ s _ _ r hK he
    | ext id => exact hK _ _ _ he
    | ret => exact hK _ _ _ he
  | cond c a b iha ihb =>
    intro p ρ st K K' r hK h
    simp only [evC] at h ⊢
    split at h
    · rename_i t x hx
      cases x
      · exact ihb _ ρ _ _ _ r hK h
      · exact iha _ ρ _ _ _ r hK h
    · rename_i x _ hx
      cases x
      · exact ihb _ ρ _ _ _ r hK h
      · exact iha _ ρ _ _ _ r hK h
    · cases h
  | block id c ih =>
    intro p ρ st K K' r hK h
    simp only [evC] at h ⊢
    refine ih _ ρ st _ _ r (fun e s r he => ?_) h
    cases e with
    | nrm => exact hK _ _ _ he
    | ret => exact hK _ _ _ he
    | ext j =>
      simp only at he ⊢
      cases hj : Nat.beq j id <;> rw [hj] at he <;> exact hK _ _ _ he
  | loop c ih =>
    intro p ρ st K K' r hK h
    simp only [evC] at h ⊢
    cases hl : L p st with
    | none => rw [hl] at h; cases h
    | some x =>
      rw [hl] at h
      rw [hL _ _ _ hl]
      exact pickK_mono hK h
  | rangeFunc g ps a b iha ihb =>
    intro p ρ st K K' r hK h
    simp only [evC] at h ⊢
    cases hl : L p st with
    | none => rw [hl] at h; cases h
    | some x =>
      rw [hl] at h
      rw [hL _ _ _ hl]
      exact pickK_mono hK h
  | _ => intro p ρ st K K' r hK h; simp [evC] at h

theorem round_mono (hL : ∀ p st x, L p st = some x → L' p st = some x) {c : Code} {p : Pl} {keep : List Nat} {nb : Nat} {st : St} {x : Ex × St} (h : round P S RO L c p keep nb st = some x) : round P S RO L' c p keep nb st = some x :=
  evC_mono hL _ _ _ _ _ _ _ (fun _ _ _ h => h) h
theorem roundF_mono (hL : ∀ p st x, L p st = some x → L' p st = some x) {ps : List Nat} {a b : Code} {p : Pl} {nb : Nat} {st : St} {x : List AV} {r : Ex × St} (h : roundF P S RO L ps a b p nb st x = some r) : roundF P S RO L' ps a b p nb st x = some r := by
  unfold roundF at h ⊢
  refine evC_mono hL _ _ _ _ _ _ _ (fun e s r h => ?_) h
  cases e with
  | nrm => exact evC_mono hL _ _ _ _ _ _ _ (fun _ _ _ h => h) h
  | ext id => cases h
  | ret => cases h

/-! ### Loops that are run -/
def locate : Code → List Bool → Option Code
  | c, [] => some c
  | .seq a _, false :: l => locate a l
  | .seq _ b, true :: l => locate b l
  | .cond _ a _, false :: l => locate a l
  | .cond _ _ b, true :: l => locate b l
  | .block _ c, false :: l => locate c l
  | .loop c, false :: l => locate c l
  | .rangeFunc _ _ a _, false :: l => locate a l
  | .rangeFunc _ _ _ b, true :: l => locate b l
  | _, _ => none
def runLoop (rnd : St → Option (Ex × St)) : Nat → St → Option (Bool × Ex × St)
  | 0, _ => none
  | n + 1, st => match rnd st with
    | some (.nrm, s) => runLoop rnd n s
    | some (e, s) => some (true, e, s)
    | none => none
def runXs (rnd : St → List AV → Option (Ex × St)) : St → List (List AV) → Option (Bool × Ex × St)
  | st, [] => some (true, .nrm, st)
  | st, x :: xs => match rnd st x with
    | some (.nrm, s) => runXs rnd s xs
    | some (e, s) => some (true, e, s)
    | none => none
/-- What iterators hand out. -/
abbrev ISpec := FuncId → List AV → Option (List (List AV))
def IOK (P : Program) (I : ISpec) : Prop := ∀ g caps xs, I g caps = some xs → SeqCon P g caps xs
def autoL (P : Program) (S : Spec) (RO : Nat → Bool) (I : ISpec) (root : Code) (iters : Nat) : Nat → LSpec
  | 0, _, _ => none
  | d + 1, p, st => match locate root p.reverse with
    | some (.loop c) => (runLoop (fun s => round P S RO (autoL P S RO I root iters d) c p (List.range st.nt) st.nx s) iters st).map fun x => [x]
    | some (.rangeFunc g ps assign body) => match val st g with
      | .fn gf caps => match I gf caps, norm P (List.range st.nt) st.nx st with
        | some xs, some st1 => cond (freeL P 0 caps && (xs.all (fun x => Nat.beq x.length ps.size) && ps.toList.all (Nat.blt · st.nt))) ((runXs (roundF P S RO (autoL P S RO I root iters d) ps.toList assign body p st.nx) st1 xs).map fun x => [x]) none
        | _, _ => none
      | _ => none
    | _ => none

theorem runLoop_mono {f g : St → Option (Ex × St)} (h : ∀ s y, f s = some y → g s = some y) {x : Bool × Ex × St} : ∀ (n : Nat) (s : St), runLoop f n s = some x → runLoop g n s = some x
  | 0, s, hx => by cases hx
  | n + 1, s, hx => by
    simp only [runLoop] at hx ⊢
    cases hr : f s with
    | none => rw [hr] at hx; cases hx
    | some y =>
      rw [hr] at hx
      rw [h _ _ hr]
      obtain ⟨e, s'⟩ := y
      cases e <;> first | exact runLoop_mono h n s' hx | exact hx
theorem runXs_mono {f g : St → List AV → Option (Ex × St)} (h : ∀ s a y, f s a = some y → g s a = some y) {x : Bool × Ex × St} : ∀ (xs : List (List AV)) (s : St), runXs f s xs = some x → runXs g s xs = some x
  | [], s, hx => hx
  | a :: xs, s, hx => by
    simp only [runXs] at hx ⊢
    cases hr : f s a with
    | none => rw [hr] at hx; cases hx
    | some y =>
      rw [hr] at hx
      rw [h _ _ _ hr]
      obtain ⟨e, s'⟩ := y
      cases e <;> first | exact runXs_mono h xs s' hx | exact hx

theorem autoL_mono (I : ISpec) (root : Code) (iters : Nat) : ∀ (d : Nat) p st x, autoL P S RO I root iters d p st = some x → autoL P S RO I root iters (d + 1) p st = some x
  | 0, p, st, x, h => by cases h
  | d + 1, p, st, x, h => by
    have ih := autoL_mono I root iters d
    rw [autoL] at h ⊢
    split at h
    · obtain ⟨y, h1, h2⟩ := Option.map_eq_some_iff.1 h
      exact Option.map_eq_some_iff.2 ⟨y, runLoop_mono (fun s y hy => round_mono ih hy) _ _ h1, h2⟩
    · split at h
      · split at h
        · obtain ⟨h1, h2⟩ := cond_some h
          rw [h1, cond_true]
          obtain ⟨y, h3, h4⟩ := Option.map_eq_some_iff.1 h2
          exact Option.map_eq_some_iff.2 ⟨y, runXs_mono (fun s a y hy => roundF_mono ih hy) _ _ h3, h4⟩
        · cases h
      · cases h
    · cases h

theorem runLoop_LB {c : Code} {p : Pl} {keep : List Nat} {nb : Nat} {e : Ex} {s' : St} {pre : Bool} : ∀ (n : Nat) (s : St), runLoop (fun s => round P S RO L c p keep nb s) n s = some (pre, e, s') → LB P S RO L c p keep nb s e s'
  | 0, s, hx => by cases hx
  | n + 1, s, hx => by
    simp only [runLoop] at hx
    cases hr : round P S RO L c p keep nb s with
    | none => rw [hr] at hx; cases hx
    | some y =>
      rw [hr] at hx
      obtain ⟨e1, s1⟩ := y
      cases e1 with
      | nrm => exact .more hr (runLoop_LB n s1 hx)
      | ret =>
        simp only [Option.some.injEq, Prod.mk.injEq] at hx
        obtain ⟨_, rfl, rfl⟩ := hx
        exact .stop hr (by simp)
      | ext id =>
        simp only [Option.some.injEq, Prod.mk.injEq] at hx
        obtain ⟨_, rfl, rfl⟩ := hx
        exact .stop hr (by simp)
theorem runXs_Rounds {ps : List Nat} {a b : Code} {p : Pl} {nb : Nat} {e : Ex} {s' : St} {pre : Bool} : ∀ (xs : List (List AV)) (s : St), runXs (roundF P S RO L ps a b p nb) s xs = some (pre, e, s') → Rounds P S RO L ps a b p nb s xs e s'
  | [], s, hx => by
    simp only [runXs, Option.some.injEq, Prod.mk.injEq] at hx
    obtain ⟨_, rfl, rfl⟩ := hx
    exact .done
  | x :: xs, s, hx => by
    simp only [runXs] at hx
    cases hr : roundF P S RO L ps a b p nb s x with
    | none => rw [hr] at hx; cases hx
    | some y =>
      rw [hr] at hx
      obtain ⟨e1, s1⟩ := y
      cases e1 with
      | nrm => exact .go hr (runXs_Rounds xs s1 hx)
      | ret =>
        simp only [Option.some.injEq, Prod.mk.injEq] at hx
        obtain ⟨_, rfl, rfl⟩ := hx
        exact .out hr (by simp)
      | ext id =>
        simp only [Option.some.injEq, Prod.mk.injEq] at hx
        obtain ⟨_, rfl, rfl⟩ := hx
        exact .out hr (by simp)
theorem LB_mono (hL : ∀ p st x, L p st = some x → L' p st = some x) {c : Code} {p : Pl} {keep : List Nat} {nb : Nat} {s : St} {e : Ex} {s' : St} (h : LB P S RO L c p keep nb s e s') : LB P S RO L' c p keep nb s e s' := by
  induction h with
  | stop h1 h2 => exact .stop (round_mono hL h1) h2
  | more h1 _ ih => exact .more (round_mono hL h1) ih
  | enter h1 _ ih => exact .enter h1 ih
theorem Rounds_mono (hL : ∀ p st x, L p st = some x → L' p st = some x) {ps : List Nat} {a b : Code} {p : Pl} {nb : Nat} {s : St} {xs : List (List AV)} {e : Ex} {s' : St} (h : Rounds P S RO L ps a b p nb s xs e s') : Rounds P S RO L' ps a b p nb s xs e s' := by
  induction h with
  | done => exact .done
  | go h1 _ ih => exact .go (roundF_mono hL h1) ih
  | out h1 h2 => exact .out (roundF_mono hL h1) h2

/-- No range over a function within another. -/
def nest : Bool → Code → Bool
  | nr, .seq a b => nest nr a && nest nr b
  | nr, .cond _ a b => nest nr a && nest nr b
  | nr, .block _ c => nest nr c
  | nr, .loop c => nest nr c
  | nr, .rangeFunc _ _ a b => !nr && (nest true a && nest true b)
  | _, _ => true
theorem locate_nil (c : Code) : locate c [] = some c := by cases c <;> rfl
theorem locate_snoc : ∀ (l : List Bool) (c : Code) (b : Bool) {c' : Code}, locate c l = some c' → locate c (l ++ [b]) = locate c' [b]
  | [], c, b, c', h => by rw [locate_nil] at h; cases h; rfl
  | b0 :: l, c, b, c', h => by
    cases c <;> cases b0 <;> simp only [locate, List.cons_append] at h ⊢ <;> first | (cases h; done) | exact locate_snoc l _ b h

theorem lok_auto {I : ISpec} (hI : IOK P I) (root : Code) (iters D : Nat) : ∀ (c : Code) (p : Pl) (lo : Nat) (nr : Bool), locate root p.reverse = some c → nest nr c = true → LOK P S RO (autoL P S RO I root iters D) lo nr c p := by
  intro c
  induction c with
  | seq a b iha ihb =>
    intro p lo nr h hn
    simp only [nest, Bool.and_eq_true] at hn
    exact ⟨iha _ lo nr (by rw [List.reverse_cons, locate_snoc _ _ _ h]; simp [locate, locate_nil]) hn.1, ihb _ lo nr (by rw [List.reverse_cons, locate_snoc _ _ _ h]; simp [locate, locate_nil]) hn.2⟩
  | cond c a b iha ihb =>
    intro p lo nr h hn
    simp only [nest, Bool.and_eq_true] at hn
    exact ⟨iha _ lo nr (by rw [List.reverse_cons, locate_snoc _ _ _ h]; simp [locate, locate_nil]) hn.1, ihb _ lo nr (by rw [List.reverse_cons, locate_snoc _ _ _ h]; simp [locate, locate_nil]) hn.2⟩
  | block id c ih =>
    intro p lo nr h hn
    exact ih _ lo nr (by rw [List.reverse_cons, locate_snoc _ _ _ h]; simp [locate, locate_nil]) hn
  | loop c ih =>
    intro p lo nr h hn
    refine ⟨fun st outs e s hlo hl hch => ?_, ih _ lo nr (by rw [List.reverse_cons, locate_snoc _ _ _ h]; simp [locate, locate_nil]) hn⟩
    cases D with
    | zero => cases hl
    | succ d =>
      refine ⟨List.range st.nt, st.nx, hlo, ?_⟩
      rw [autoL, h] at hl
      obtain ⟨y, h1, rfl⟩ := Option.map_eq_some_iff.1 hl
      obtain ⟨g, e1, s1⟩ := y
      rcases hch with ⟨_, rfl, rfl⟩ | ⟨_, hch⟩
      · exact LB_mono (autoL_mono I root iters d) (runLoop_LB _ _ h1)
      · exact hch.elim
  | rangeFunc g ps a b iha ihb =>
    intro p lo nr h hn
    simp only [nest, Bool.and_eq_true, Bool.not_eq_true'] at hn
    refine ⟨hn.1, fun st outs e s hlo hl hch => ?_, fun nb => iha _ nb true (by rw [List.reverse_cons, locate_snoc _ _ _ h]; simp [locate, locate_nil]) hn.2.1, fun nb => ihb _ nb true (by rw [List.reverse_cons, locate_snoc _ _ _ h]; simp [locate, locate_nil]) hn.2.2⟩
    cases D with
    | zero => cases hl
    | succ d =>
      refine ⟨List.range st.nt, st.nx, hlo, ?_⟩
      rw [autoL, h] at hl
      simp only at hl
      split at hl
      · rename_i gf caps hv
        split at hl
        · rename_i xs st1 hxs hno
          obtain ⟨h1, h2⟩ := cond_some hl
          simp only [Bool.and_eq_true] at h1
          obtain ⟨y, h3, rfl⟩ := Option.map_eq_some_iff.1 h2
          obtain ⟨gg, ee, ss⟩ := y
          obtain ⟨rfl, rfl⟩ : e = ee ∧ s = ss := by
            rcases hch with ⟨_, rfl, rfl⟩ | ⟨_, hch⟩
            · exact ⟨rfl, rfl⟩
            · exact hch.elim
          refine ⟨gf, caps, xs, st1, hv, h1.1, hI _ _ _ hxs, fun x hx => ?_, fun q hq => ?_, hno, Rounds_mono (autoL_mono I root iters d) (runXs_Rounds _ _ h3)⟩
          · have := List.all_eq_true.1 h1.2.1 x hx
            simpa using Nat.eq_of_beq_eq_true this
          · have := List.all_eq_true.1 h1.2.2 q hq
            simpa [Nat.blt_eq] using this
        · cases hl
      · cases hl
  | _ => intros; trivial

/-- Functions that are run, d calls deep. -/
def runS (P : Program) (I : ISpec) (RO : FuncId → Nat → Bool) (over : Spec) (iters dl : Nat) : Nat → Spec
  | 0 => over
  | d + 1 => fun f args => match over f args with
    | some r => some r
    | none => match P.funcs[f]? with
      | some fn => match fn.body with
        | some c => cond (nest false c) (match evF P (runS P I RO over iters dl d) (RO f) (autoL P (runS P I RO over iters dl d) (RO f) I c iters dl) fn args with
          | some v => some (true, v)
          | none => none) none
        | none => none
      | none => none
theorem runS_ok {I : ISpec} (hI : IOK P I) (hm : P.follows .mixedOrders = true) (hnames : ∀ (f : FuncId) (fn : Func), P.funcs[f]? = some fn → (fn.name == "runtime.NumGoroutine") = false) {ro : FuncId → Nat → Bool} {over : Spec} (ho : SpecOK P over) {iters dl : Nat} : ∀ d, SpecOK P (runS P I ro over iters dl d)
  | 0 => ho
  | d + 1 => by
    intro f args pre v h hp
    simp only [runS] at h
    split at h
    · rename_i r hr
      obtain rfl : r = (pre, v) := by simpa using h
      exact ho f args pre v hr hp
    · split at h
      · rename_i fn hfn
        split at h
        · rename_i c hc
          obtain ⟨h1, h2⟩ := cond_some h
          split at h2
          · rename_i v' hv
            simp only [Option.some.injEq, Prod.mk.injEq] at h2
            obtain ⟨_, rfl⟩ := h2
            exact con_of (runS_ok hI hm hnames ho d) hm hfn hc (hnames f fn hfn) (lok_auto hI c iters dl c [] 0 false (locate_nil c) h1) hv
          · cases h2
        · cases h
      · cases h
end Go.Ev

set_option linter.unusedVariables false
set_option linter.unusedSimpArgs false
namespace Go.Ev
open Go Go.RowKit

variable {P : Program} {S : Spec} {RO : Nat → Bool} {X D : Nat → Prop} {R : Nat → Option (Nat × Nat)} {st : St} {a : Act} {w : World} {n : Nat} {Q : Exit → Act → World → Prop}

theorem VR_plain_all : (∀ x : AV, plain x = true → ∀ v, VR P D R w x v → v = toV x) ∧ (∀ l : List AV, plainL l = true → ∀ vs : List Value, vs.length = l.length → (∀ k, k < l.length → VR P D R w (l.getD k .u) (vs.getD k undef)) → vs = toVL l) := by
  have key : ∀ (n : Nat), (∀ x : AV, SizeOf.sizeOf x < n → plain x = true → ∀ v, VR P D R w x v → v = toV x) ∧ (∀ l : List AV, SizeOf.sizeOf l < n → plainL l = true → ∀ vs : List Value, vs.length = l.length → (∀ k, k < l.length → VR P D R w (l.getD k .u) (vs.getD k undef)) → vs = toVL l) := by
    intro n
    induction n with
    | zero => exact ⟨fun x h => by omega, fun l h => by omega⟩
    | succ n ih =>
      refine ⟨fun x hs hp v hv => ?_, fun l hs hp vs hl hv => ?_⟩
      · cases x <;> simp only [plain] at hp <;> try (cases hp; done)
        · exact hv.bool_inv
        · exact hv.int_inv.1
        · exact hv.str_inv.1
        · rename_i cs
          obtain ⟨cv, rfl, h1, h2⟩ := hv.agg_inv
          simp only [toV]
          have := ih.2 cs (by simp at hs; omega) hp cv.toList (by simpa using h1) (fun k hk => by
            have := h2 k hk
            simpa [Array.getD_eq_getD_getElem?, List.getD_eq_getElem?_getD] using this)
          rw [← this]
      · cases l with
        | nil => simpa [toVL] using hl
        | cons a r =>
          cases vs with
          | nil => simp at hl
          | cons v vs =>
            simp only [plainL, Bool.and_eq_true] at hp
            simp only [toVL]
            rw [ih.1 a (by simp at hs; omega) hp.1 v (by simpa using hv 0 (by simp)), ih.2 r (by simp at hs; omega) hp.2 vs (by simpa using hl) (fun k hk => by simpa using hv (k + 1) (by simpa using hk))]
  exact ⟨fun x => (key (SizeOf.sizeOf x + 1)).1 x (by omega), fun l => (key (SizeOf.sizeOf l + 1)).2 l (by omega)⟩

/-- A call of yield. -/
theorem yield_op {o : Oper} {c : Call} {l : Nat} {x : Operand} {xv : AV} {next : Act → World → Prop} {Rr : Ending → World → Prop} (ho : o.op = .call c) {y : Operand} (hc : c.callee = .value y) (ha : c.args = #[x])
    (hy : a.eval y = .func (.yield l) #[] #[]) (hx : VR P D R w xv (a.eval x)) (hp : plain xv = true) (h : ∀ m, YieldAt (FW none) m P l (encV [xv]) w Rr)
    (hn : ∀ e w', Rr e w' → ∃ v, e = .returned v ∧ next (a.put o.dst v) w') : o.wpIn (FW none) n P a w next Q := by
  have hd : ∀ c, o.op ≠ .defer c := by intro c' hc'; rw [ho] at hc'; cases hc'
  refine ⟨fun _ _ => trivial, ?_⟩
  rw [Oper.semAt_eq _ _ _ hd]
  obtain ⟨fn, tmps, assign, body, h1, h2⟩ := h (n - 1)
  have he : a.eval x = toV xv := VR_plain_all.1 xv hp _ hx
  have hrun : (execOp a.eval o).run P w = .ok (.round l fn tmps assign body) w := by
    have hres : (resolve a.eval c o.type).run P w = .ok { target := .fn (.yield l) #[], args := #[] ++ c.args.map a.eval } w := by
      simp [resolve, hc, Deferred.ofValue, hy]
    simp only [execOp, ho, Sem.run_bind, hres, Result.andThen_ok, invoke]
    have : (#[] ++ c.args.map a.eval) = encV [xv] := by simp [ha, encV, toVL, he]
    rw [this]
    exact h1
  rw [hrun]
  refine ⟨fun hh => by simp [FW, Fence.wide] at hh, h2.mono fun e w' he' => ?_⟩
  obtain ⟨v, rfl, hv⟩ := hn e w' he'
  exact hv

/-- What is known of a state behind a round. -/
theorem kp_SR {b : Base} {Y D' : Nat → Prop} {R' : Nat → Option (Nat × Nat)} {st' s : St} {W W' : World} {keep : List Nat} (h : SR P b Y D' R' st' a W) (hn : norm P keep 0 st' = some s) (hk : KpOf Y W W') (hd : a.defers = []) :
    SR P ⟨W', fun _ => False, 0, Nat.zero_le _⟩ Y Y none2 s a W' := by
  obtain ⟨h1, _, h3, h4⟩ := norm_sound h hn
  have h2 := h1.shrink
  have hm : ∀ id, gm s.m id = .dead := by
    unfold norm at hn
    obtain ⟨_, hn⟩ := cond_some hn
    simp only [Option.some.injEq] at hn
    subst hn
    intro id
    rfl
  refine ⟨fun t => ?_, h2.nt, fun id => (by rw [hm]; trivial), fun id b s e => by simp [none2] at e, fun id id' b s s' e => by simp [none2] at e, fun b hb => hb, fun b hb => Nat.lt_of_lt_of_le (h.lt b (h.X b hb)) hk.size, ⟨rfl, rfl, rfl, Nat.le_refl _, fun _ _ _ => rfl⟩, ⟨[], hd, by simp, fun b hb => by simp at hb⟩⟩
  refine (h2.tmp t).mono' (fun id x e => by simp at e) fun b o u hd hc => ?_
  have hb : ¬ Y b := fun hy => hd (.inl hy)
  obtain ⟨ob, h5, h6⟩ := cells_of_cell hc
  exact ⟨hb, (World.cell?_of_block ((hk.same b ob h5 h6 hb).trans h5.symm)).trans hc⟩

/-- How an iterator over a slice is walked, up to its call of yield: none: it is at its end. -/
def sliceT (P : Program) (S : Spec) (RO : Nat → Bool) (L : LSpec) (r1 r2 : Code) (t8 : Nat) (ops : Array Oper) (c yv xv : Nat) (keep : List Nat) (st : St) : Option (Option (AV × AV × St)) :=
  evC P S RO L r1 [] st fun e s => match e with
    | .nrm => evC P S RO L (.cond (.tmp t8) .skip (.exit 0)) [] s fun e s => match e with
      | .nrm => evC P S RO L r2 [] s fun e s => match e with
        | .nrm => evOps P S RO ops s.nx (chkOf ops true s.nx) (ops.toList.take c) 0 s fun s => match norm P keep 0 s with
          | some s' => some (some (gt s.t yv, gt s.t xv, s'))
          | none => none
        | _ => none
      | .ext k => cond (Nat.beq k 0) (some none) none
      | _ => none
    | _ => none
def afterR (P : Program) (S : Spec) (RO : Nat → Bool) (L : LSpec) (r : Code) (keep : List Nat) (st : St) : Option St :=
  evC P S RO L r [] st fun e s => match e with
    | .nrm => norm P keep 0 s
    | _ => none

theorem iter_slice (hs : SpecOK P S) (hm : P.follows .mixedOrders = true) {L : LSpec} {f : FuncId} {fn : Func} {r0 r1 r2 r4 : Code} {id t8 z yd yv xv c : Nat} {ops : Array Oper} {keep : List Nat} {o1 o2 : Oper} {cl : Call} {ty : TypeId} {caps : List AV} {xs : List AV} {stI : Nat → Nat → St}
    (hf : P.funcs[f]? = some fn) (hname : (fn.name == "runtime.NumGoroutine") = false) (hres : fn.results = #[])
    (hb : fn.body = some (.seq r0 (.block 0 (.loop (.seq r1 (.seq (.cond (.tmp t8) .skip (.exit 0)) (.seq (.block 1 (.seq r2 (.seq (.region id ops true) (.cond (.tmp z) .ret .skip)))) r4)))))))
    (hL : ∀ lo p, LOK P S RO L lo true r0 p ∧ LOK P S RO L lo true r1 p ∧ LOK P S RO L lo true r2 p ∧ LOK P S RO L lo true r4 p)
    (hdr : drawOK ops = true) (hsz : ops.size = c + 2) (hcut : ∀ j o, ops[j]? = some o → c ≤ j → ∀ i, i < j → bef ops j i)
    (ho1 : ops[c]? = some o1) (hg1 : o1.guard = none) (hp1 : o1.op = .call cl) (hc1 : cl.callee = .value (.tmp yv)) (ha1 : cl.args = #[.tmp xv]) (hdo1 : o1.dst = some yd)
    (ho2 : ops[c + 1]? = some o2) (hg2 : o2.guard = none) (hp2 : o2.op = .unOp .not ty (.tmp yd)) (hdo2 : o2.dst = some z) (hyz : yd < fn.ntmps ∧ z < fn.ntmps)
    (hplain : plainL xs = true) (hargs : caps.length + 1 ≤ fn.ntmps)
    (h0 : ∀ l, afterR P S RO L r0 keep (initSt fn.ntmps (.yl l :: caps)) = some (stI l 0))
    (h1 : ∀ l i, i < xs.length → sliceT P S RO L r1 r2 t8 ops c yv xv keep (stI l i) = some (some (.yl l, xs.getD i .u, stI l i)))
    (h1n : ∀ l, sliceT P S RO L r1 r2 t8 ops c yv xv keep (stI l xs.length) = some none)
    (h4 : ∀ l i, i < xs.length → afterR P S RO L r4 keep (stI l i) = some (stI l (i + 1)))
    (hnx : ∀ l i, (stI l i).nx = 0 ∧ (stI l i).nt = fn.ntmps ∧ gt (stI l i).t yd = .u ∧ gt (stI l i).t z = .u) :
    SeqCon P f caps (xs.map fun x => [x]) := by
  refine ⟨⟨fn, hf, hname, by rw [hb]; rfl⟩, fun x hx => ?_, ?_⟩
  · obtain ⟨y, hy, rfl⟩ := List.mem_map.1 hx
    have : ∀ (l : List AV), plainL l = true → y ∈ l → plain y = true := by
      intro l
      induction l with
      | nil => intro _ h; cases h
      | cons a l ih =>
        intro h hy
        simp only [plainL, Bool.and_eq_true] at h
        rcases List.mem_cons.1 hy with rfl | hy
        · exact h.1
        · exact ih h.2 hy
    simp [plainL, this xs hplain hy]
  intro Y n w lb hY hlb hcaps l J Jx hJ hJx hJ0 hyield
  have pl : ∀ i, i < xs.length → plain (xs.getD i .u) = true := by
    have : ∀ (l : List AV) (i : Nat), plainL l = true → i < l.length → plain (l.getD i .u) = true := by
      intro l
      induction l with
      | nil => intro i _ h; simp at h
      | cons a l ih =>
        intro i h hi
        simp only [plainL, Bool.and_eq_true] at h
        cases i with
        | zero => simpa using h.1
        | succ i => simpa using ih i h.2 (by simpa using hi)
    exact fun i hi => this xs i hplain hi
  refine callsIn_of_wp hf hb trivial ?_
  have W : ∀ (r : Code), LOK P S RO L 0 true r [] → Walks P S RO L r [] 0 true none n := fun r hr => evC_sound hs hm r [] 0 true none n hr (by simp)
  have hinit : SR P ⟨w, fun _ => False, w.heap.size, Nat.le_refl _⟩ Y Y none2 (initSt fn.ntmps (.yl l :: caps)) { tmps := (#[Value.func (.yield l) #[] #[]] ++ lb) ++ Array.replicate (fn.ntmps - (#[Value.func (.yield l) #[] #[]] ++ lb).size) undef, defers := [] } w :=
    init_SR hY (by simp [hlb]; omega) (by simpa using hargs) (fun k hk => by
      cases k with
      | zero =>
        have e : (#[Value.func (.yield l) #[] #[]] ++ lb).getD 0 undef = .func (.yield l) #[] #[] := by simp [Array.getD_eq_getD_getElem?, Array.getElem?_append]
        rw [e]
        exact .yl
      | succ k =>
        have := hcaps k (by simpa using hk)
        simpa [Array.getD_eq_getD_getElem?, Array.getElem?_append] using this)
  -- leaving the function
  have fin : ∀ (e : Exit) (a' : Act) (w' : World), (e = .normal ∨ e = .ret) → a'.defers = [] → (J xs.length w' ∨ Jx w') → bodyPost P fn (fun e W' => (∃ v, e = .returned v) ∧ (J (xs.map fun x => [x]).length W' ∨ Jx W')) e a' w' := by
    intro e a' w' he hd hj
    have hr : ∃ v, (results fn a'.tmps).run P w' = .ok v w' := by
      simp [results, hres]
    obtain ⟨v, hv⟩ := hr
    rcases he with rfl | rfl <;> exact ⟨hd, v, hv, ⟨v, rfl⟩, by simpa using hj⟩
  refine wpIn_seq (W r0 (hL 0 []).1 hinit (fun _ _ => rfl) (Nat.zero_le _) (h0 l) fun D' R' e s a' w' hS hF _ hdf _ _ hK => ?_)
  cases e with
  | ext k => cases hK
  | ret => cases hK
  | nrm =>
    simp only at hK
    have hd' : a'.defers = [] := hdf rfl
    have hbl : Below w.heap.size w w' := ⟨hS.old.os, hS.old.tape, hS.old.output, hS.old.size, fun k hk => hS.old.block k hk (fun h => h)⟩
    have hS0 := kp_SR hS hK ⟨rfl, rfl, rfl, Nat.le_refl _, fun k o ho _ _ => ho⟩ hd'
    have hJ0' := hJ 0 w w' hJ0 hbl
    refine wpIn_block ?_
    refine loop_of ?_
    -- the rounds
    generalize hB : Code.seq r1 (.seq (.cond (.tmp t8) .skip (.exit 0)) (.seq (.block 1 (.seq r2 (.seq (.region id ops true) (.cond (.tmp z) .ret .skip)))) r4)) = B
    generalize hQ : bodyPost P fn (fun e W' => (∃ v, e = .returned v) ∧ (J (xs.map fun x => [x]).length W' ∨ Jx W')) = Q at fin
    have loop : ∀ (m i : Nat), xs.length - i = m → i ≤ xs.length → ∀ (b : Base) (a : Act) (w : World), SR P b Y Y none2 (stI l i) a w → b.w = w → (∀ k, ¬ b.Y k) → a.defers = [] → J i w →
        ∀ (bf : Frame) (k : List Item) (cs : List Frame), bf.roundOf = (FW none).round → (FW none).fn bf.fn → (FW none).room (cs.length + 1 + n) → ∃ e a' w', Exit.inBlock 0 Q e a' w' ∧
          ArrivesIn (Machine.fenced P (FW none)) P (lone (bf.atR a (.code B :: .inLoop B :: k)) cs w) bf k cs e a' w' := by
      intro m
      induction m using Nat.strongRecOn with
      | ind m ih =>
      intro i him hi b a w hS hbw hbY hda hJi
      have hbl : ∀ {st' : St} {D' : Nat → Prop} {R' : Nat → Option (Nat × Nat)} {a' : Act} {w' : World}, SR P b Y D' R' st' a' w' → Below w.heap.size w w' := fun h => by
        have := h.old
        subst hbw
        exact ⟨this.os, this.tape, this.output, this.size, fun k hk => this.block k hk (hbY k)⟩
      have hT : ∃ r, sliceT P S RO L r1 r2 t8 ops c yv xv keep (stI l i) = some r ∧ ((i < xs.length ∧ r = some (.yl l, xs.getD i .u, stI l i)) ∨ (i = xs.length ∧ r = none)) := by
        by_cases h : i < xs.length
        · exact ⟨_, h1 l i h, .inl ⟨h, rfl⟩⟩
        · have e : i = xs.length := by omega
          exact ⟨_, by rw [e]; exact h1n l, .inr ⟨e, rfl⟩⟩
      obtain ⟨r, hT, hr⟩ := hT
      subst hB
      refine of_loop (wpIn_seq (W r1 (hL 0 []).2.1 hS (fun _ _ => rfl) (Nat.zero_le _) hT fun D1 R1 e1 s1 a1 w1 hS1 hF1 _ hd1 _ _ hK1 => ?_))
      cases e1 with
      | ext k => cases hK1
      | ret => cases hK1
      | nrm =>
      refine wpIn_seq (evC_sound hs hm (.cond (.tmp t8) .skip (.exit 0)) [] 0 true none n ⟨trivial, trivial⟩ (by simp) hS1 hF1 (Nat.zero_le _) hK1 fun D2 R2 e2 s2 a2 w2 hS2 hF2 _ hd2 _ _ hK2 => ?_)
      have hda2 : a2.defers = [] := (hd2 rfl).trans ((hd1 rfl).trans hda)
      cases e2 with
      | ret => cases hK2
      | ext k =>
        obtain ⟨hk, hK2⟩ := cond_some hK2
        have hk0 := Nat.eq_of_beq_eq_true hk
        have hrn : r = none := by simpa using hK2.symm
        have hin : i = xs.length := by
          rcases hr with ⟨_, hr⟩ | ⟨hr, _⟩
          · rw [hrn] at hr; cases hr
          · exact hr
        subst hk0
        show Exit.inBlock 0 Q (.exit 0) a2 w2
        simp only [Exit.inBlock, if_true]
        exact fin .normal a2 w2 (.inl rfl) hda2 (.inl (by rw [← hin]; exact hJ i w w2 hJi (hbl hS2)))
      | nrm =>
      simp only at hK2
      refine wpIn_seq (wpIn_block (wpIn_seq (W r2 (hL 0 []).2.2.1 hS2 hF2 (Nat.zero_le _) hK2 fun D3 R3 e3 s3 a3 w3 hS3 hF3 _ hd3 _ _ hK3 => ?_)))
      cases e3 with
      | ext k => cases hK3
      | ret => cases hK3
      | nrm =>
      simp only at hK3
      refine wpIn_seq (region_cut hs hm hdr (c := c) (by omega) hcut hS3 hF3 hK3 fun D4 R4 s4 a4 w4 hS4 hF4 _ hd4 _ hnt4 hK4 => ?_)
      have hda4 : a4.defers = [] := hd4.trans ((hd3 rfl).trans hda2)
      cases hno : norm P keep 0 s4 with
      | none => rw [hno] at hK4; cases hK4
      | some s' =>
      rw [hno] at hK4
      simp only [Option.some.injEq] at hK4
      obtain ⟨hin, e1, e2, e3⟩ : i < xs.length ∧ gt s4.t yv = .yl l ∧ gt s4.t xv = xs.getD i .u ∧ s' = stI l i := by
        rcases hr with ⟨h, hr⟩ | ⟨_, hr⟩
        · rw [hr] at hK4
          simp only [Option.some.injEq, Prod.mk.injEq] at hK4
          exact ⟨h, hK4.1, hK4.2.1, hK4.2.2⟩
        · rw [hr] at hK4; cases hK4
      subst e3
      obtain ⟨_, hnti, hui, huz⟩ := hnx l i
      have hsz4 : a4.tmps.size = fn.ntmps := by
        obtain ⟨g1, _, _, g4⟩ := norm_sound hS4 hno
        rw [g1.nt]; exact hnti
      have hyev : a4.eval (.tmp yv) = .func (.yield l) #[] #[] := by
        have := hS4.tmp yv
        rw [e1] at this
        show a4.tmps.getD yv undef = _
        generalize a4.tmps.getD yv undef = q at this
        cases this; rfl
      have hxev : VR P D4 R4 w4 (xs.getD i .u) (a4.eval (.tmp xv)) := by
        have := hS4.tmp xv
        rw [e2] at this
        exact this
      rw [hsz, show c + 2 - c = 2 by omega]
      simp only [List.range'_succ, List.range'_zero, wpOpsIn, ho1, ho2]
      rw [if_pos (by simp [Region.wanted, hg1])]
      refine yield_op hp1 hc1 ha1 hyev hxev (pl i hin) (fun m => hyield i [xs.getD i .u] w4 m (hJ i w w4 hJi (hbl hS4)) (by simp [List.getD_eq_getElem?_getD, List.getElem?_eq_getElem hin])) fun e5 w5 he => ?_
      have op2 : ∀ (tb : Bool) (nx : Act → World → Prop) (Qx : Exit → Act → World → Prop), nx ((a4.put o1.dst (.bool tb)).put o2.dst (.bool (!tb))) w5 → o2.wpIn (FW none) n P (a4.put o1.dst (.bool tb)) w5 nx Qx := by
        intro tb nx Qx hnx'
        have ev : (a4.put o1.dst (.bool tb)).eval (.tmp yd) = .bool tb := by
          rw [hdo1]
          show (a4.tmps.setIfInBounds yd (.bool tb)).getD yd undef = _
          simp [Array.getD_eq_getD_getElem?, hsz4, hyz.1]
        refine wpIn_value (w' := w5) (v := .bool (!tb)) (fun c' hc' => by rw [hp2] at hc'; cases hc') ?_ hnx'
        simp only [execOp, hp2, ev]
        simp [Op.unary]
      have hzev : ∀ tb, ((a4.put o1.dst (.bool tb)).put o2.dst (.bool (!tb))).eval (.tmp z) = .bool (!tb) := by
        intro tb
        rw [hdo1, hdo2]
        show ((a4.tmps.setIfInBounds yd (.bool tb)).setIfInBounds z (.bool (!tb))).getD z undef = _
        simp [Array.getD_eq_getD_getElem?, hsz4, hyz.2]
      have hdf6 : ∀ tb, ((a4.put o1.dst (.bool tb)).put o2.dst (.bool (!tb))).defers = [] := fun tb => by rw [put_defers, put_defers]; exact hda4
      rcases he with ⟨rfl, hj5, hkp⟩ | ⟨rfl, hjx⟩
      · refine ⟨_, rfl, ?_⟩
        rw [if_pos (by simp [Region.wanted, hg2])]
        refine op2 true _ _ ?_
        show (Code.cond (.tmp z) .ret .skip).wpIn (FW none) n P _ _ w5
        refine wpIn_cond (t := false) (hzev true) ?_
        refine wpIn_skip ?_
        show r4.wpIn (FW none) n P _ _ w5
        have hS5 := kp_SR hS4 hno hkp hda4
        have hS6 : SR P ⟨w5, fun _ => False, 0, Nat.zero_le _⟩ Y Y none2 (stI l i) ((a4.put o1.dst (.bool true)).put o2.dst (.bool (!true))) w5 := by
          have q := (hS5.put (d := some yd) (v := .b true) (v' := .bool true) (fun x hx => by cases hx; rw [hnti]; exact hyz.1) .b).put (d := some z) (v := .b false) (v' := .bool false) (fun x hx => by cases hx; rw [put_nt, hnti]; exact hyz.2) .b
          rw [hdo1, hdo2]
          refine { q with tmp := fun t => ?_, nt := q.nt.trans ?_, mem := fun id => hS5.mem id, df := q.df }
          · have := q.tmp t
            simp only [St.put, gt_cons] at this
            by_cases e1 : t = z
            · rw [e1, huz]; exact .u
            · by_cases e2 : t = yd
              · rw [e2, hui]; exact .u
              · simpa [e1, e2] using this
          · rfl
        refine W r4 (hL 0 []).2.2.2 hS6 (fun _ _ => rfl) (Nat.zero_le _) (h4 l i hin) fun D7 R7 e7 s7 a7 w7 hS7 hF7 _ hd7 _ _ hK7 => ?_
        cases e7 with
        | ext k => cases hK7
        | ret => cases hK7
        | nrm =>
        simp only at hK7
        have hda7 : a7.defers = [] := (hd7 rfl).trans (hdf6 true)
        have hbl7 : Below w5.heap.size w5 w7 := ⟨hS7.old.os, hS7.old.tape, hS7.old.output, hS7.old.size, fun k hk => hS7.old.block k hk (fun h => h)⟩
        have hS8 := kp_SR hS7 hK7 ⟨rfl, rfl, rfl, Nat.le_refl _, fun k o ho _ _ => ho⟩ hda7
        exact ih (xs.length - (i + 1)) (by omega) (i + 1) rfl (by omega) _ a7 w7 hS8 rfl (fun _ h => h) hda7 (hJ (i + 1) w5 w7 hj5 hbl7)
      · refine ⟨_, rfl, ?_⟩
        rw [if_pos (by simp [Region.wanted, hg2])]
        refine op2 false _ _ ?_
        show (Code.cond (.tmp z) .ret .skip).wpIn (FW none) n P _ _ w5
        refine wpIn_cond (t := true) (hzev false) ?_
        refine wpIn_ret ?_
        exact fin .ret _ w5 (.inr rfl) (hdf6 false) (.inr hjx)
    exact loop _ 0 rfl (Nat.zero_le _) _ a' w' hS0 rfl (fun _ h => h) hd' hJ0'
end Go.Ev

set_option linter.unusedVariables false
set_option linter.unusedSimpArgs false
namespace Go.Ev
open Go Go.RowKit Go.ChangeShapes

variable {P : Program} {w : World} {H : Type} {enc : TypeId × Value → H} {base : Nat} {spare : Nat → Bool} {held : Bool}

/-- Types of plain values, and of slices of such. 'f': slices in slices; 'k': structs in structs. -/
def fieldsOK (ok : TypeId → Bool) (len : TypeId → Nat) : List Field → Nat → Bool
  | [], _ => true
  | fl :: fs, o => Nat.beq fl.offset o && (ok fl.type && (Nat.beq (P.cellsOf fl.type) (len fl.type) && fieldsOK ok len fs (o + P.cellsOf fl.type)))
def layK (ok : TypeId → Bool) : Nat → TypeId → Bool
  | 0, _ => false
  | k + 1, t => match P.underlying t with
    | some (.int _) => true
    | some .bool => true
    | some .string => true
    | some (.slice e) => ok e && okT P e
    | some (.struct fs) => fieldsOK (P := P) (layK ok k) (fun t => (ctsOf P k t).length) fs.toList 0
    | _ => false
def layOK (P : Program) : Nat → TypeId → Bool
  | 0, _ => false
  | f + 1, t => layK (P := P) (layOK P f) 8 t

theorem mapM_at {α β : Type} {f : α → Option β} : ∀ {l : List α} {xs : List β}, l.mapM f = some xs → xs.length = l.length ∧ ∀ (i : Nat) (x : α), l[i]? = some x → ∃ y, xs[i]? = some y ∧ f x = some y
  | [], xs, h => by
    simp at h
    subst h
    exact ⟨rfl, fun i x hx => by simp at hx⟩
  | a :: l, xs, h => by
    simp only [List.mapM_cons] at h
    cases h1 : f a with
    | none => simp [h1] at h
    | some y =>
      cases h2 : l.mapM f with
      | none => simp [h1, h2] at h
      | some ys =>
        simp [h1, h2] at h
        subst h
        obtain ⟨q1, q2⟩ := mapM_at h2
        refine ⟨by simp [q1], fun i x hx => ?_⟩
        cases i with
        | zero =>
          simp at hx
          subst hx
          exact ⟨y, rfl, h1⟩
        | succ i => simpa using q2 i x (by simpa using hx)

theorem choose_list {α : Type} (d : α) {p : Nat → α → Prop} : ∀ (n : Nat), (∀ i, i < n → ∃ a, p i a) → ∃ l : List α, l.length = n ∧ ∀ i, i < n → p i (l.getD i d)
  | 0, _ => ⟨[], rfl, fun i h => by omega⟩
  | n + 1, h => by
    obtain ⟨l, h1, h2⟩ := choose_list d n fun i hi => h i (by omega)
    obtain ⟨a, ha⟩ := h n (by omega)
    refine ⟨l ++ [a], by simp [h1], fun i hi => ?_⟩
    by_cases e : i = n
    · subst e
      have : (l ++ [a]).getD i d = a := by simp [List.getD_eq_getElem?_getD, ← h1]
      rw [this]; exact ha
    · have hlt : i < l.length := by omega
      have : (l ++ [a]).getD i d = l.getD i d := by simp [List.getD_eq_getElem?_getD, List.getElem?_append, hlt]
      rw [this]; exact h2 i (by omega)
theorem cell_plain {ad : Addr} {v : Value} (h : w.cell? ad = some v) : ad = ⟨ad.block, ad.off, none⟩ := by
  obtain ⟨b, o, s⟩ := ad
  cases s with
  | none => rfl
  | some s =>
    simp only [World.cell?] at h
    cases hb : w.heap[b]? with
    | none => simp [hb] at h
    | some o' => cases o' <;> simp [hb] at h

theorem fields_VR {X : Nat → Prop} {k : Nat} {ok : TypeId → Bool} {cs : List Value} {rd : TypeId → List Value → Option (DataW H × List MemPlace)}
    (ih : ∀ (t : TypeId) (cs' : List Value) (x : DataW H × List MemPlace), rd t cs' = some x → ok t = true → ∃ as : List AV, as.length = (ctsOf P k t).length ∧ WTs P (ctsOf P k t) as ∧ ∀ j, j < as.length → VR P X none2 w (as.getD j .u) (cs'.getD j undef)) :
    ∀ (fs : List Field) (o : Nat), fieldsOK (P := P) ok (fun t => (ctsOf P k t).length) fs o = true → (∀ fl, fl ∈ fs → ∃ x, rd fl.type ((cs.drop fl.offset).take (P.cellsOf fl.type)) = some x) →
      ∃ as : List AV, as.length = (fs.flatMap fun f => ctsOf P k f.type).length ∧ WTs P (fs.flatMap fun f => ctsOf P k f.type) as ∧ ∀ j, j < as.length → VR P X none2 w (as.getD j .u) (cs.getD (o + j) undef)
  | [], o, _, _ => ⟨[], rfl, ⟨rfl, fun j hj => by simp at hj⟩, fun j hj => by simp at hj⟩
  | fl :: fs, o, h, hr => by
    simp only [fieldsOK, Bool.and_eq_true] at h
    obtain ⟨h1, h2, h3, h4⟩ := h
    have h1 : fl.offset = o := Nat.eq_of_beq_eq_true h1
    have h3 : P.cellsOf fl.type = (ctsOf P k fl.type).length := Nat.eq_of_beq_eq_true h3
    obtain ⟨x, hx⟩ := hr fl (by simp)
    obtain ⟨a1, q1, q2, q3⟩ := ih _ _ _ hx h2
    obtain ⟨a2, r1, r2, r3⟩ := fields_VR ih fs (o + P.cellsOf fl.type) h4 fun f hf => hr f (by simp [hf])
    refine ⟨a1 ++ a2, by simp [q1, r1], ⟨by simp [q1, r1], fun j hj => ?_⟩, fun j hj => ?_⟩
    · by_cases hj1 : j < a1.length
      · have := q2.2 j hj1
        have hj2 : j < (ctsOf P k fl.type).length := by omega
        simpa [List.getD_eq_getElem?_getD, List.getElem?_append, hj1, hj2] using this
      · have := r2.2 (j - a1.length) (by simp at hj; omega)
        have hj2 : ¬ j < (ctsOf P k fl.type).length := by omega
        rw [q1] at this
        simpa [List.getD_eq_getElem?_getD, List.getElem?_append, hj1, hj2, q1] using this
    · by_cases hj1 : j < a1.length
      · have := q3 j hj1
        have hj2 : j < P.cellsOf fl.type := by omega
        rw [h1] at this
        simpa [List.getD_eq_getElem?_getD, List.getElem?_append, hj1, List.getElem?_take, hj2, List.getElem?_drop] using this
      · have := r3 (j - a1.length) (by simp at hj; omega)
        rw [show o + P.cellsOf fl.type + (j - a1.length) = o + j by omega] at this
        simpa [List.getD_eq_getElem?_getD, List.getElem?_append, hj1] using this
/-- What is read is a value. -/
theorem trod_VR {X : Nat → Prop} (hX : ∀ b, ¬ X b) : ∀ (n : Nat) (f k : Nat) (t : TypeId) (cs : List Value) (x : DataW H × List MemPlace), DataW.trod enc P w base spare held n t cs = some x → layK (P := P) (layOK P f) k t = true →
    ∃ as : List AV, as.length = (ctsOf P k t).length ∧ WTs P (ctsOf P k t) as ∧ ∀ j, j < as.length → VR P X none2 w (as.getD j .u) (cs.getD j undef)
  | 0, f, k, t, cs, x, h, _ => by simp [DataW.trod] at h
  | n + 1, f, 0, t, cs, x, h, hl => by simp [layK] at hl
  | n + 1, f, k + 1, t, cs, x, h, hl => by
    simp only [layK] at hl
    simp only [DataW.trod] at h
    have one : ∀ {c : CT} {a : AV} {v : Value}, WT P c a → VR P X none2 w a v → ∃ as : List AV, as.length = [c].length ∧ WTs P [c] as ∧ ∀ j, j < as.length → VR P X none2 w (as.getD j .u) ([v].getD j undef) := fun h1 h2 =>
      ⟨[_], rfl, ⟨rfl, fun j hj => by
        have : j = 0 := by simpa using hj
        subst this; simpa using h1⟩, fun j hj => by
        have : j = 0 := by simpa using hj
        subst this; simpa using h2⟩
    cases hu : P.underlying t with
    | none => rw [hu] at hl; cases hl
    | some td =>
      rw [hu] at hl h
      have hct : ctsOf P (k + 1) t = match td with
        | .int k => [.int k]
        | .bool => [.bool]
        | .string => [.str]
        | .slice e => [.sl e]
        | .struct fs => fs.toList.flatMap fun f => ctsOf P k f.type
        | .array n e => (List.replicate n (ctsOf P k e)).flatten
        | _ => [.oth] := by
        simp only [ctsOf, hu]
        cases td <;> rfl
      cases td <;> simp only at hl h hct <;> first | (cases hl; done) | skip
      case bool =>
        rw [hct]
        match cs, h with
        | [.bool b], h => exact one .bool .b
      case int kd =>
        rw [hct]
        match cs, h with
        | [.int k' z], h =>
          simp only at h
          split at h
          · rename_i hk
            obtain ⟨rfl, hw⟩ := hk
            simp only [Lit.wf, Bool.and_eq_true, decide_eq_true_eq] at hw
            exact one (.int hw.1 hw.2) (.i hw.1 hw.2)
          · cases h
      case string =>
        rw [hct]
        match cs, h with
        | [.string s], h =>
          simp only at h
          split at h
          · rename_i hk
            have : s.size ≤ 9223372036854775807 := by simpa [maxLen] using hk
            exact one (.str this) (.s this)
          · cases h
      case slice e =>
        rw [hct]
        simp only [Bool.and_eq_true] at hl
        obtain ⟨hle, ho⟩ := hl
        match cs, h with
        | [.slice none 0 0], h => exact one (a := .rs e []) (.sl (by simp) (by simp) (by simp)) (.rs0 fun _ => rfl)
        | [.slice (some ad) len cap], h =>
          simp only at h
          split at h
          · rename_i hc
            obtain ⟨_, hlc, hcm⟩ := hc
            cases hm : (List.range len).mapM fun i => (w.cells? base (ad.add (i * P.cellsOf e)) (P.cellsOf e)).bind (DataW.trod enc P w base spare held n e) with
            | none => rw [hm] at h; simp at h
            | some elems =>
              obtain ⟨_, hat⟩ := mapM_at hm
              obtain ⟨hcl, hpos, _⟩ := okT_spec ho
              obtain ⟨f', rfl⟩ : ∃ f', f = f' + 1 := by
                cases f with
                | zero => simp [layOK] at hle
                | succ f' => exact ⟨f', rfl⟩
              have hel : ∀ i, i < len → ∃ q : List AV × List Value, q.1.length = P.cellsOf e ∧ WTs P (cts P e) q.1 ∧ (∀ j, j < P.cellsOf e → w.cell? ((ad.add (i * P.cellsOf e)).add j) = some (q.2.getD j undef)) ∧ ∀ j, j < P.cellsOf e → VR P X none2 w (q.1.getD j .u) (q.2.getD j undef) := by
                intro i hi
                obtain ⟨y, _, hy⟩ := hat i i (by simp [hi])
                obtain ⟨ci, hci, hti⟩ := Option.bind_eq_some_iff.1 hy
                obtain ⟨as, g1, g2, g3⟩ := trod_VR hX n f' 8 e ci y hti hle
                simp only [World.cells?] at hci
                split at hci
                · obtain ⟨c1, c2⟩ := mapM_at hci
                  have hl1 : as.length = P.cellsOf e := by rw [g1]; exact hcl
                  refine ⟨(as, ci), hl1, g2, fun j hj => ?_, fun j hj => g3 j (by omega)⟩
                  obtain ⟨v, v1, v2⟩ := c2 j j (by simp [hj])
                  rw [v2]
                  simp [List.getD_eq_getElem?_getD, v1]
                · cases hci
              cases len with
              | zero => exact one (a := .rs e []) (.sl (by simp) (by simp) (by simp)) (.rs0 fun h => by cases h)
              | succ len =>
                obtain ⟨l, hl1, hl2⟩ := choose_list ([], []) _ hel
                have hpl : ad = ⟨ad.block, ad.off, none⟩ := by
                  have := (hl2 0 (by omega)).2.2.1 0 hpos
                  simp only [Nat.zero_mul] at this
                  have e0 : (ad.add 0).add 0 = ad := by simp [Addr.add]
                  rw [e0] at this
                  exact cell_plain this
                rw [hpl] at hl2 ⊢
                have hget : ∀ i, i < len + 1 → (l.map (·.1)).getD i [] = (l.getD i ([], [])).1 := fun i hi => by
                  have : i < l.length := by omega
                  simp [List.getD_eq_getElem?_getD, this]
                have hlm : (l.map (·.1)).length = len + 1 := by simp [hl1]
                have hmem : ∀ x, x ∈ l.map (·.1) → ∃ i, i < len + 1 ∧ x = (l.getD i ([], [])).1 := fun x hx => by
                  obtain ⟨i, hi, he⟩ := List.getElem_of_mem hx
                  exact ⟨i, by omega, by rw [← hget i (by omega), ← he]; simp [List.getD_eq_getElem?_getD, List.getElem?_eq_getElem hi]⟩
                have hWT : WT P (.sl e) (.rs e (l.map (·.1))) := .sl (by rw [hlm]; have h9 : cap ≤ 9223372036854775807 := hcm; omega) (fun x hx => by
                  obtain ⟨i, hi, rfl⟩ := hmem x hx
                  rw [(hl2 i hi).1, hcl]) (fun x hx j hj => by
                  obtain ⟨i, hi, rfl⟩ := hmem x hx
                  exact (hl2 i hi).2.1.2 j hj)
                have hVR : VR P X none2 w (.rs e (l.map (·.1))) (.slice (some ⟨ad.block, ad.off, none⟩) (l.map (·.1)).length cap) := by
                  refine .rs (f := fun i j => (l.getD i ([], [])).2.getD j undef) (fun h0 => by rw [h0] at hlm; simp at hlm) hpos (by rw [hlm]; exact hlc) hcl (hX _) hWT (fun i j hi hj => ?_) (fun i j hi hj => ?_)
                  · have := (hl2 i (by omega)).2.2.1 j hj
                    rw [add_plain', add_plain', Nat.add_assoc] at this
                    exact this
                  · rw [hget i (by omega)]
                    exact (hl2 i (by omega)).2.2.2 j hj
                rw [hlm] at hVR
                exact one hWT hVR
          · cases h
      case struct fs =>
        rw [hct]
        split at h
        · cases hm : fs.toList.mapM fun f => DataW.trod enc P w base spare held n f.type ((cs.drop f.offset).take (P.cellsOf f.type)) with
          | none => rw [hm] at h; simp at h
          | some xs =>
            obtain ⟨_, hat⟩ := mapM_at hm
            obtain ⟨as, q1, q2, q3⟩ := fields_VR (P := P) (w := w) (X := X) (k := k) (cs := cs) (rd := DataW.trod enc P w base spare held n) (fun t cs' x hx hok => trod_VR hX n f k t cs' x hx hok) fs.toList 0 hl (fun fl hfl => by
              obtain ⟨i, hi, he⟩ := List.getElem_of_mem hfl
              obtain ⟨y, _, hy⟩ := hat i fl (by rw [← he]; exact List.getElem?_eq_getElem hi)
              exact ⟨y, hy⟩)
            exact ⟨as, q1, q2, fun j hj => by simpa using q3 j hj⟩
        · cases h
end Go.Ev

set_option linter.unusedVariables false
set_option linter.unusedSimpArgs false
namespace Go.Ev
open Go Go.RowKit Go.ChangeShapes

variable {P : Program} {W W' : World} {H : Type} {enc : TypeId × Value → H}

/-- An argument of a type, by value. -/
def TyArg (P : Program) (t : TypeId) (av : AV) : Prop :=
  (isAgg P t = true ∧ ∃ as, av = .agg as ∧ WTs P (cts P t) as) ∨ (isAgg P t = false ∧ WT P ((cts P t).headD .oth) av)
def TyArgs (P : Program) : List TypeId → List AV → Prop
  | [], [] => True
  | t :: ts, a :: as => TyArg P t a ∧ TyArgs P ts as
  | _, _ => False

theorem arg_VR {t : TypeId} {v : Value} {d : DataW H} {p : List MemPlace} {b0 : Nat} {spare : Nat → Bool} {held : Bool} {base : Nat} {r : Reach} (hl : layOK P 4 t = true) (ho : okT P t = true) (hv : Value.okWide P W r b0 t v) (h : DataW.Trod enc P W base spare held t v d p) :
    ∃ av, TyArg P t av ∧ VR P (fun _ => False) none2 W av v := by
  obtain ⟨n, hn⟩ := h
  obtain ⟨as, h1, h2, h3⟩ := trod_VR (X := fun _ => False) (fun _ h => h) n 3 8 t v.cells.toList (d, p) hn hl
  obtain ⟨o1, o2, o3⟩ := okT_spec ho
  have hcl : (ctsOf P 8 t).length = P.cellsOf t := o1
  unfold Value.okWide at hv
  cases hA : isAgg P t with
  | true =>
    have : ∃ cs, v = .agg cs ∧ cs.size = P.cellsOf t := by
      unfold isAgg at hA
      cases hu : P.underlying t with
      | none => rw [hu] at hA; cases hA
      | some td =>
        rw [hu] at hA hv
        cases td <;> simp only at hA hv <;> first | (cases hA; done) | (obtain ⟨cs, g1, g2, _⟩ := hv; exact ⟨cs, g1, g2⟩)
    obtain ⟨cs, rfl, hs⟩ := this
    refine ⟨.agg as, .inl ⟨hA, as, rfl, h2⟩, .agg (by omega) fun k hk => ?_⟩
    have := h3 k hk
    simpa [Value.cells, List.getD_eq_getElem?_getD, Array.getD_eq_getD_getElem?] using this
  | false =>
    have hne : ∀ cs, v ≠ .agg cs := by
      intro cs e
      subst e
      unfold isAgg at hA
      cases hu : P.underlying t with
      | none => rw [hu] at hv; simp [Cell.okWide, Cell.ok, hu] at hv
      | some td =>
        rw [hu] at hA hv
        cases td <;> simp only at hA hv <;> first | (cases hA; done) | (simp [Cell.okWide, Cell.ok, hu] at hv; done)
    have hone : v.cells = #[v] := by cases v <;> first | rfl | exact absurd rfl (hne _)
    have h1' : as.length = 1 := by rw [h1]; exact o3 hA
    refine ⟨as.getD 0 .u, .inr ⟨hA, ?_⟩, ?_⟩
    · have := h2.2 0 (by omega)
      have e : (ctsOf P 8 t).getD 0 .oth = (cts P t).headD .oth := by
        show (cts P t).getD 0 .oth = _
        cases cts P t <;> rfl
      rw [← e]; exact this
    · have := h3 0 (by omega)
      rw [hone] at this
      simpa using this

theorem trodAll_VR {b0 : Nat} {spare : Nat → Bool} {held : Bool} {base : Nat} {r : Reach} : ∀ {ts : List TypeId} {vs : List Value} {ds : List (DataW H)} {p : List MemPlace}, ts.all (fun t => layOK P 4 t && okT P t) = true →
    (∀ (j : Nat) t v, ts[j]? = some t → vs[j]? = some v → Value.okWide P W r b0 t v) → DataW.TrodAll enc P W base spare held ts vs ds p →
    ∃ avs, TyArgs P ts avs ∧ avs.length = vs.length ∧ ∀ k, k < avs.length → VR P (fun _ => False) none2 W (avs.getD k .u) (vs.getD k undef)
  | [], vs, ds, p, _, _, h => by
    obtain ⟨rfl, rfl, rfl⟩ := trodAll_nil h
    exact ⟨[], trivial, rfl, fun k hk => by simp at hk⟩
  | t :: ts, vs, ds, p, hl, hv, h => by
    obtain ⟨v, vs', d, ds', p1, q1, rfl, rfl, rfl, h1, h2⟩ := trodAll_cons h
    simp only [List.all_cons, Bool.and_eq_true] at hl
    obtain ⟨av, g1, g2⟩ := arg_VR hl.1.1 hl.1.2 (hv 0 t v rfl rfl) h1
    obtain ⟨avs, q1, q2, q3⟩ := trodAll_VR hl.2 (fun j t v ht hvj => hv (j + 1) t v (by simpa using ht) (by simpa using hvj)) h2
    refine ⟨av :: avs, ⟨g1, q1⟩, by simp [q2], fun k hk => ?_⟩
    cases k with
    | zero => simpa using g2
    | succ k => simpa using q3 k (by simpa using hk)

theorem trodAll_below (hl : laidOutB P = true) : ∀ {ts : List TypeId} {vs : List Value} {ds : List (DataW H)} {p : List MemPlace}, ts.all (fun t => P.readableRec t && Nat.blt t P.types.size) = true →
    DataW.TrodAll enc P W 0 (fun _ => true) true ts vs ds p → Below W.heap.size W W' → DataW.TrodAll enc P W' 0 (fun b => decide (b < W.heap.size)) true ts vs ds p
  | [], vs, ds, p, _, h, _ => by
    obtain ⟨rfl, rfl, rfl⟩ := trodAll_nil h
    exact trodAll_mk0
  | t :: ts, vs, ds, p, hr, h, hb => by
    obtain ⟨v, vs', d, ds', p1, q1, rfl, rfl, rfl, h1, h2⟩ := trodAll_cons h
    simp only [List.all_cons, Bool.and_eq_true] at hr
    refine trodAll_cons_mk (Below.trod hl hr.1.1 (by simpa [Nat.blt_eq] using hr.1.2) h1 hb ?_) (trodAll_below hl hr.2 h2 hb)
    obtain ⟨n, hn⟩ := h1
    exact DataW.trod_lt n t v.cells.toList _ hn

theorem trodAll_len {b : Nat} {spare : Nat → Bool} {held : Bool} : ∀ {ts : List TypeId} {vs : List Value} {ds : List (DataW H)} {p : List MemPlace}, DataW.TrodAll enc P W b spare held ts vs ds p → vs.length = ts.length ∧ ds.length = ts.length
  | [], vs, ds, p, h => by
    obtain ⟨rfl, rfl, rfl⟩ := trodAll_nil h
    exact ⟨rfl, rfl⟩
  | t :: ts, vs, ds, p, h => by
    obtain ⟨v, vs', d, ds', p1, q1, rfl, rfl, rfl, h1, h2⟩ := trodAll_cons h
    obtain ⟨g1, g2⟩ := trodAll_len h2
    exact ⟨by simp [g1], by simp [g2]⟩
/-- A law: what it gives for all arguments of its types. -/
theorem law_calls {f : FuncId} {fn : Func} {args : Array Value} {b0 : Nat} {spare : Nat → Bool} {held : Bool} {base : Nat} {r : Reach} {ds : List (DataW H)} {p : List MemPlace} {ts : List TypeId} (hts : fn.params.toList = ts) (hl : ts.all (fun t => layOK P 4 t && okT P t) = true)
    (law : ∀ avs, TyArgs P ts avs → Con P f avs (.b true))
    (hval : ∀ (j : Nat) t v, fn.params[j]? = some t → args[j]? = some v → Value.okWide P W r b0 t v) (hA : DataW.TrodAll enc P W base spare held ts args.toList ds p) :
    Calls P f args W fun e W' => e = .returned (.bool true) ∧ Below W.heap.size W W' := by
  obtain ⟨avs, h1, h2, h3⟩ := trodAll_VR hl (fun j t v ht hv => hval j t v (by rw [← hts] at ht; simpa using ht) (by simpa using hv)) hA
  refine ((law avs h1).calls (fun _ => False) W args (fun b h => h.elim) (by simpa using h2.symm) fun k hk => ?_).mono ?_
  · have := h3 k hk
    simpa [List.getD_eq_getElem?_getD, Array.getD_eq_getD_getElem?] using this
  · rintro e w' ⟨v', rfl, hv, hb⟩
    rw [hv.bool_inv]
    exact ⟨rfl, hb⟩
end Go.Ev

set_option linter.unusedVariables false
set_option linter.unusedSimpArgs false
namespace Go.Ev
open Go Go.RowKit

variable {P : Program} {S : Spec} {RO : Nat → Bool} {L : LSpec}

/-- The first number below n of which a test holds (n: there is none). -/
def firstN (ex : Nat → Bool) : Nat → Nat
  | 0 => 0
  | n + 1 => cond (ex 0) 0 (firstN (fun i => ex (i + 1)) n + 1)
def anyN (ex : Nat → Bool) : Nat → Bool
  | 0 => false
  | n + 1 => ex 0 || anyN (fun i => ex (i + 1)) n
theorem anyN_iff : ∀ {n : Nat} {ex : Nat → Bool}, anyN ex n = true ↔ ∃ i, i < n ∧ ex i = true
  | 0, ex => by simp [anyN]
  | n + 1, ex => by
    simp only [anyN, Bool.or_eq_true, anyN_iff (n := n)]
    constructor
    · rintro (h | ⟨i, hi, h⟩)
      · exact ⟨0, by omega, h⟩
      · exact ⟨i + 1, by omega, h⟩
    · rintro ⟨i, hi, h⟩
      cases i with
      | zero => exact .inl h
      | succ i => exact .inr ⟨i, by omega, h⟩
theorem anyN_false {n : Nat} {ex : Nat → Bool} (h : anyN ex n = false) {i : Nat} (hi : i < n) : ex i = false := by
  cases he : ex i with
  | false => rfl
  | true => rw [anyN_iff.2 ⟨i, hi, he⟩] at h; cases h
theorem firstN_spec : ∀ {n : Nat} {ex : Nat → Bool}, anyN ex n = true → firstN ex n < n ∧ ex (firstN ex n) = true ∧ ∀ i, i < firstN ex n → ex i = false
  | 0, ex, h => by cases h
  | n + 1, ex, h => by
    simp only [anyN, Bool.or_eq_true] at h
    simp only [firstN]
    cases h0 : ex 0 with
    | true => exact ⟨by simp, by simpa using h0, fun i hi => by simp at hi⟩
    | false =>
      have h' : anyN (fun i => ex (i + 1)) n = true := by
        rcases h with h | h
        · rw [h0] at h; cases h
        · exact h
      obtain ⟨q1, q2, q3⟩ := firstN_spec h'
      refine ⟨by simpa using q1, by simpa using q2, fun i hi => ?_⟩
      cases i with
      | zero => exact h0
      | succ i => exact q3 i (by simpa using hi)

/-- A loop that counts from 0 to n, and may be left on the way. -/
theorem LB_for {c : Code} {p : Pl} {keep : List Nat} {nb n : Nat} {stI : Nat → St} {ex : Nat → Bool} {out : Nat → Ex × St} {fin : Ex × St}
    (h1 : ∀ i, i < n → ex i = false → round P S RO L c p keep nb (stI i) = some (.nrm, stI (i + 1)))
    (h2 : ∀ i, i < n → ex i = true → round P S RO L c p keep nb (stI i) = some (out i) ∧ (out i).1 ≠ .nrm)
    (h3 : round P S RO L c p keep nb (stI n) = some fin) (h4 : fin.1 ≠ .nrm) :
    ∀ e s, Chosen [(anyN ex n, (out (firstN ex n)).1, (out (firstN ex n)).2), (true, fin.1, fin.2)] e s → LB P S RO L c p keep nb (stI 0) e s := by
  have walk : ∀ (k m : Nat), k + m ≤ n → (∀ i, i < k + m → ex i = false) → ∀ {e s}, LB P S RO L c p keep nb (stI (k + m)) e s → LB P S RO L c p keep nb (stI k) e s := by
    intro k m
    induction m generalizing k with
    | zero => intro _ _ e s h; exact h
    | succ m ih =>
      intro hk hex e s h
      refine .more (h1 k (by omega) (hex k (by omega))) (ih (k + 1) (by omega) (fun i hi => hex i (by omega)) ?_)
      rw [show k + 1 + m = k + (m + 1) by omega]
      exact h
  intro e s hch
  rcases hch with ⟨ha, rfl, rfl⟩ | ⟨ha, ⟨_, rfl, rfl⟩ | ⟨_, hf⟩⟩
  · obtain ⟨q1, q2, q3⟩ := firstN_spec ha
    obtain ⟨r1, r2⟩ := h2 _ q1 q2
    have := walk 0 (firstN ex n) (by omega) (fun i hi => q3 i (by omega)) (e := (out (firstN ex n)).1) (s := (out (firstN ex n)).2) (by rw [Nat.zero_add]; exact .stop r1 r2)
    exact this
  · have := walk 0 n (by omega) (fun i hi => anyN_false ha (by omega)) (e := fin.1) (s := fin.2) (by rw [Nat.zero_add]; exact .stop h3 h4)
    exact this
  · exact hf.elim

/-- No range over a function. -/
def noRF : Code → Bool
  | .seq a b => noRF a && noRF b
  | .cond _ a b => noRF a && noRF b
  | .block _ c => noRF c
  | .loop c => noRF c
  | .rangeFunc .. => false
  | _ => true
theorem lok_of {root : Code} (hL : ∀ q c, locate root q.reverse = some (.loop c) → ∀ st outs e s, L q st = some outs → Chosen outs e s → ∃ keep nb, LB P S RO L c q keep nb st e s) :
    ∀ (c : Code) (p : Pl) (nr : Bool), locate root p.reverse = some c → noRF c = true → LOK P S RO L 0 nr c p := by
  intro c
  induction c with
  | seq a b iha ihb =>
    intro p nr h hn
    simp only [noRF, Bool.and_eq_true] at hn
    exact ⟨iha _ nr (by rw [List.reverse_cons, locate_snoc _ _ _ h]; simp [locate, locate_nil]) hn.1, ihb _ nr (by rw [List.reverse_cons, locate_snoc _ _ _ h]; simp [locate, locate_nil]) hn.2⟩
  | cond c a b iha ihb =>
    intro p nr h hn
    simp only [noRF, Bool.and_eq_true] at hn
    exact ⟨iha _ nr (by rw [List.reverse_cons, locate_snoc _ _ _ h]; simp [locate, locate_nil]) hn.1, ihb _ nr (by rw [List.reverse_cons, locate_snoc _ _ _ h]; simp [locate, locate_nil]) hn.2⟩
  | block id c ih =>
    intro p nr h hn
    exact ih _ nr (by rw [List.reverse_cons, locate_snoc _ _ _ h]; simp [locate, locate_nil]) hn
  | loop c ih =>
    intro p nr h hn
    refine ⟨fun st outs e s _ hl hch => ?_, ih _ nr (by rw [List.reverse_cons, locate_snoc _ _ _ h]; simp [locate, locate_nil]) hn⟩
    obtain ⟨keep, nb, hLB⟩ := hL p c h st outs e s hl hch
    exact ⟨keep, nb, Nat.zero_le _, hLB⟩
  | rangeFunc g ps a b => intro p nr h hn; cases hn
  | _ => intros; trivial

/-- Where there are ranges over functions, too. -/
theorem lok_of2 {root : Code} (hL : ∀ q c, locate root q.reverse = some (.loop c) → ∀ lo st outs e s, lo ≤ st.nx → L q st = some outs → Chosen outs e s → ∃ keep nb, lo ≤ nb ∧ LB P S RO L c q keep nb st e s)
    (hR : ∀ q g ps a b, locate root q.reverse = some (.rangeFunc g ps a b) → ∀ lo st outs e s, lo ≤ st.nx → L q st = some outs → Chosen outs e s → ∃ keep nb, lo ≤ nb ∧ RB P S RO L g ps.toList a b q keep nb st e s) :
    ∀ (c : Code) (p : Pl) (lo : Nat) (nr : Bool), locate root p.reverse = some c → nest nr c = true → LOK P S RO L lo nr c p := by
  intro c
  induction c with
  | seq a b iha ihb =>
    intro p lo nr h hn
    simp only [nest, Bool.and_eq_true] at hn
    exact ⟨iha _ lo nr (by rw [List.reverse_cons, locate_snoc _ _ _ h]; simp [locate, locate_nil]) hn.1, ihb _ lo nr (by rw [List.reverse_cons, locate_snoc _ _ _ h]; simp [locate, locate_nil]) hn.2⟩
  | cond c a b iha ihb =>
    intro p lo nr h hn
    simp only [nest, Bool.and_eq_true] at hn
    exact ⟨iha _ lo nr (by rw [List.reverse_cons, locate_snoc _ _ _ h]; simp [locate, locate_nil]) hn.1, ihb _ lo nr (by rw [List.reverse_cons, locate_snoc _ _ _ h]; simp [locate, locate_nil]) hn.2⟩
  | block id c ih =>
    intro p lo nr h hn
    exact ih _ lo nr (by rw [List.reverse_cons, locate_snoc _ _ _ h]; simp [locate, locate_nil]) hn
  | loop c ih =>
    intro p lo nr h hn
    exact ⟨fun st outs e s hlo hl hch => hL p c h lo st outs e s hlo hl hch, ih _ lo nr (by rw [List.reverse_cons, locate_snoc _ _ _ h]; simp [locate, locate_nil]) hn⟩
  | rangeFunc g ps a b iha ihb =>
    intro p lo nr h hn
    simp only [nest, Bool.and_eq_true, Bool.not_eq_true'] at hn
    exact ⟨hn.1, fun st outs e s hlo hl hch => hR p g ps a b h lo st outs e s hlo hl hch, fun nb => iha _ nb true (by rw [List.reverse_cons, locate_snoc _ _ _ h]; simp [locate, locate_nil]) hn.2.1,
      fun nb => ihb _ nb true (by rw [List.reverse_cons, locate_snoc _ _ _ h]; simp [locate, locate_nil]) hn.2.2⟩
  | _ => intros; trivial
end Go.Ev

set_option linter.unusedVariables false
set_option linter.unusedSimpArgs false
namespace Go.Ev
open Go Go.RowKit

variable {P : Program} {S : Spec} {RO : Nat → Bool} {L : LSpec}

/-- What is kept at a loop's head, without its places. -/
def normV (P : Program) (keep : List Nat) (nb : Nat) (st : St) : Option (List AV × List Blk × Nat) := match norm P keep nb st with
  | some s => some (s.t.map Prod.snd, s.m.map Prod.snd, s.nt)
  | none => none
/-- The same, where all rows are kept. -/
def normE (P : Program) (keep : List Nat) (nb : Nat) (st : St) : Option (List AV × List Blk × Nat) := cond (Nat.beq st.nx nb) (normV P keep nb st) none
theorem zip_snd {α : Type} (f : Nat → α) : ∀ (l : List Nat), l.zip ((l.map fun k => (k, f k)).map Prod.snd) = l.map fun k => (k, f k)
  | [] => rfl
  | a :: l => by
    have := zip_snd f l
    simp only [List.map_cons, List.zip_cons_cons, this]
theorem normV_norm {keep : List Nat} {nb : Nat} {st : St} {vs : List AV} {bs : List Blk} {nt : Nat} (h : normV P keep nb st = some (vs, bs, nt)) : norm P keep nb st = some { t := keep.zip vs, m := (List.range nb).zip bs, nx := nb, nt := nt } := by
  unfold normV at h
  split at h
  · rename_i s hs
    cases h
    have hk := hs
    unfold norm at hk
    obtain ⟨_, hk⟩ := cond_some hk
    cases hk
    rw [hs, zip_snd, zip_snd]
  · cases h
theorem normE_norm {keep : List Nat} {nb : Nat} {st : St} {vs : List AV} {bs : List Blk} {nt : Nat} (h : normE P keep nb st = some (vs, bs, nt)) : st.nx = nb ∧ norm P keep nb st = some { t := keep.zip vs, m := (List.range nb).zip bs, nx := nb, nt := nt } := by
  unfold normE at h
  obtain ⟨h1, h2⟩ := cond_some h
  exact ⟨Nat.eq_of_beq_eq_true h1, normV_norm h2⟩

theorem chosen_guard {g a : Bool} {x y : Ex × St} {e : Ex} {s : St} (h : Chosen [(g && a, x.1, x.2), (g, y.1, y.2)] e s) : g = true ∧ Chosen [(a, x.1, x.2), (true, y.1, y.2)] e s := by
  cases g with
  | false =>
    rcases h with ⟨h, _⟩ | ⟨_, ⟨h, _⟩ | ⟨_, h⟩⟩
    · cases h
    · cases h
    · exact h.elim
  | true => exact ⟨rfl, by simpa using h⟩
/-- A loop over numbers from 0 on. -/
theorem LB_forG {c : Code} {p : Pl} {keep : List Nat} {nb n lo : Nat} {g : Bool} {stI : Nat → St} {ex : Nat → Bool} {out : Nat → Ex × St} {fin : Ex × St} {st : St} {e : Ex} {s : St}
    (hno : norm P keep nb st = some (stI 0)) (hlo : lo ≤ nb)
    (hch : Chosen [(g && anyN ex n, (out (firstN ex n)).1, (out (firstN ex n)).2), (g, fin.1, fin.2)] e s) (h2 : ∀ i, (out i).1 ≠ .nrm) (h4 : fin.1 ≠ .nrm)
    (hr : g = true → (∀ i, i < n → round P S RO L c p keep nb (stI i) = cond (ex i) (some (out i)) (some (.nrm, stI (i + 1)))) ∧ round P S RO L c p keep nb (stI n) = some fin) :
    ∃ keep nb, lo ≤ nb ∧ LB P S RO L c p keep nb st e s := by
  obtain ⟨hg, hch⟩ := chosen_guard hch
  obtain ⟨h1, h3⟩ := hr hg
  exact ⟨keep, nb, hlo, .enter hno (LB_for (fun i hi hx => by rw [h1 i hi, hx]; rfl) (fun i hi hx => ⟨by rw [h1 i hi, hx]; rfl, h2 i⟩) h3 h4 e s hch)⟩
theorem anyN_const_false : ∀ (n : Nat), anyN (fun _ => false) n = false
  | 0 => rfl
  | n + 1 => by simp [anyN, anyN_const_false n]
/-- A loop that is never left on the way. -/
theorem LB_forN {c : Code} {p : Pl} {keep : List Nat} {nb n lo : Nat} {g : Bool} {stI : Nat → St} {fin : Ex × St} {st : St} {e : Ex} {s : St}
    (hno : norm P keep nb st = some (stI 0)) (hlo : lo ≤ nb)
    (hch : Chosen [(g, fin.1, fin.2)] e s) (h4 : fin.1 ≠ .nrm)
    (hr : g = true → (∀ i, i < n → round P S RO L c p keep nb (stI i) = some (.nrm, stI (i + 1))) ∧ round P S RO L c p keep nb (stI n) = some fin) :
    ∃ keep nb, lo ≤ nb ∧ LB P S RO L c p keep nb st e s := by
  refine LB_forG (n := n) (g := g) (ex := fun _ => false) (out := fun _ => (.ret, st)) (fin := fin) hno hlo ?_ (fun _ => by simp) h4 (fun hg => ⟨fun i hi => by rw [(hr hg).1 i hi]; rfl, (hr hg).2⟩)
  rw [anyN_const_false, Bool.and_false]
  exact .inr ⟨rfl, hch⟩

theorem norm_nt {keep : List Nat} {nb : Nat} {st s : St} (h : norm P keep nb st = some s) : s.nt = st.nt := by
  unfold norm at h
  obtain ⟨_, h⟩ := cond_some h
  cases h
  rfl
/-- The rounds of a range over a function. -/
theorem rounds_for {ps : List Nat} {assign body : Code} {p : Pl} {nb : Nat} : ∀ {xs : List (List AV)} {stI : Nat → St} {ex : Nat → Bool} {out : Nat → Ex × St},
    (∀ i x, xs[i]? = some x → roundF P S RO L ps assign body p nb (stI i) x = cond (ex i) (some (out i)) (some (.nrm, stI (i + 1)))) → (∀ i, (out i).1 ≠ .nrm) →
    ∀ e s, Chosen [(anyN ex xs.length, (out (firstN ex xs.length)).1, (out (firstN ex xs.length)).2), (true, .nrm, stI xs.length)] e s → Rounds P S RO L ps assign body p nb (stI 0) xs e s
  | [], stI, ex, out, _, _, e, s, hch => by
    rcases hch with ⟨h, _⟩ | ⟨_, ⟨_, rfl, rfl⟩ | ⟨_, h⟩⟩
    · cases h
    · exact .done
    · exact h.elim
  | x :: xs, stI, ex, out, hr, ho, e, s, hch => by
    have h0 := hr 0 x rfl
    cases hx : ex 0 with
    | true =>
      rw [hx] at h0
      have : anyN ex (x :: xs).length = true := by simp [anyN, hx]
      rcases hch with ⟨_, rfl, rfl⟩ | ⟨h, _⟩
      · have hf : firstN ex (x :: xs).length = 0 := by simp [firstN, hx]
        rw [hf]
        exact .out h0 (ho 0)
      · rw [this] at h; cases h
    | false =>
      rw [hx] at h0
      refine .go h0 (rounds_for (stI := fun i => stI (i + 1)) (ex := fun i => ex (i + 1)) (out := fun i => out (i + 1)) (fun i y hy => hr (i + 1) y (by simpa using hy)) (fun i => ho _) e s ?_)
      have e1 : anyN ex (x :: xs).length = anyN (fun i => ex (i + 1)) xs.length := by simp [anyN, hx]
      have e2 : firstN ex (x :: xs).length = firstN (fun i => ex (i + 1)) xs.length + 1 := by simp [firstN, hx]
      rw [e1, e2] at hch
      exact hch
theorem RB_forG {g : Operand} {ps : List Nat} {assign body : Code} {p : Pl} {keep : List Nat} {nb lo gf : Nat} {caps : List AV} {xs : List (List AV)} {gd : Bool} {stI : Nat → St} {ex : Nat → Bool} {out : Nat → Ex × St} {st : St} {e : Ex} {s : St}
    (hno : norm P keep nb st = some (stI 0)) (hlo : lo ≤ nb) (hv : val st g = .fn gf caps) (hfr : freeL P 0 caps = true) (hps : ∀ q, q ∈ ps → q < (stI 0).nt)
    {n : Nat} (hn : xs.length = n) (hch : Chosen [(gd && anyN ex n, (out (firstN ex n)).1, (out (firstN ex n)).2), (gd, .nrm, stI n)] e s) (ho : ∀ i, (out i).1 ≠ .nrm) (hlen : ∀ x, x ∈ xs → x.length = ps.length)
    (hr : gd = true → SeqCon P gf caps xs ∧ (∀ i x, xs[i]? = some x → roundF P S RO L ps assign body p nb (stI i) x = cond (ex i) (some (out i)) (some (.nrm, stI (i + 1))))) :
    ∃ keep nb, lo ≤ nb ∧ RB P S RO L g ps assign body p keep nb st e s := by
  subst hn
  obtain ⟨hg, hch⟩ := chosen_guard (x := out (firstN ex xs.length)) (y := (.nrm, stI xs.length)) hch
  obtain ⟨h1, h3⟩ := hr hg
  exact ⟨keep, nb, hlo, gf, caps, xs, _, hv, hfr, h1, hlen, fun q hq => norm_nt hno ▸ hps q hq, hno, rounds_for h3 ho e s hch⟩

def allN (f : Nat → Bool) : Nat → Bool
  | 0 => true
  | n + 1 => f n && allN f n
theorem allN_at {f : Nat → Bool} : ∀ {n : Nat}, allN f n = true → ∀ i, i < n → f i = true
  | 0, _, i, hi => by omega
  | n + 1, h, i, hi => by
    simp only [allN, Bool.and_eq_true] at h
    by_cases e : i = n
    · subst e; exact h.1
    · exact allN_at h.2 i (by omega)
theorem allN_of {f : Nat → Bool} : ∀ {n : Nat}, (∀ i, i < n → f i = true) → allN f n = true
  | 0, _ => rfl
  | n + 1, h => by simp [allN, h n (by omega), allN_of (n := n) fun i hi => h i (by omega)]
theorem wrap_succ {k : Nat} {n : Int} (h1 : (k : Int) < n) (h2 : n ≤ 9223372036854775807) : IntKind.i64.wrap ((k : Int) + 1) = ((k + 1 : Nat) : Int) := by
  simp only [IntKind.wrap, IntKind.signed, IntKind.bits]
  simp
  omega
/-- Two ways out. -/
theorem chosen_two {g a c : Bool} {x y z : Ex × St} {e : Ex} {s : St} (h : Chosen [(g && a && c, x.1, x.2), (g && a, y.1, y.2), (g, z.1, z.2)] e s) : Chosen [(g && a, (cond c x y).1, (cond c x y).2), (g, z.1, z.2)] e s := by
  cases c with
  | false =>
    simp only [Bool.and_false] at h
    rcases h with ⟨h, _⟩ | ⟨_, h⟩
    · cases h
    · exact h
  | true =>
    simp only [Bool.and_true] at h
    rcases h with h | ⟨h1, h2 | ⟨h2, h3⟩⟩
    · exact .inl h
    · rw [h1] at h2; cases h2.1
    · exact .inr ⟨h1, h3⟩
theorem lt_toNat {k : Nat} {n : Int} (h : k < n.toNat) : (k : Int) < n := by omega
theorem lt_toNat_s {k s : Nat} {n : Int} (h : k < n.toNat - s) : ((k + s : Nat) : Int) < n := by omega
theorem not_lt_toNat {n : Int} : decide (((n.toNat : Nat) : Int) < n) = false := decide_eq_false (by omega)
theorem not_lt_toNat_s {s : Nat} {n : Int} : decide (((n.toNat - s + s : Nat) : Int) < n) = false := decide_eq_false (by omega)
/-- A loop of a code, at its place. -/
def loopAt (root : Code) (path : List Bool) : Code := match locate root path with | some (.loop c) => c | _ => .skip
end Go.Ev

set_option linter.unusedVariables false
namespace Go.Ev
open Go Go.RowKit
variable {P : Program}

/-- An empty slice is nil, or not. -/
theorem con_nil {f : FuncId} {e : TypeId} {v : AV} (h1 : Con P f [.nl] .nl) (h2 : Con P f [.e0 false] v) (hv : ∀ X w w' u, Res P X w w' .nl u → Res P X w w' v u) : Con P f [.rs e []] v := by
  refine ⟨h1.fn, fun X w av hX hs ha => ?_⟩
  have h0 := ha 0 (by simp)
  have hsz : av.size = 1 := by simpa using hs
  simp only [List.getD_cons_zero] at h0
  generalize hq : av.getD 0 undef = q at h0
  cases h0 with
  | @rs0 _ a c hc =>
    cases a with
    | none =>
      obtain rfl := hc rfl
      refine (h1.calls X w av hX hs fun k hk => ?_).mono fun e w' ⟨v', q1, q2, q3⟩ => ⟨v', q1, hv _ _ _ _ q2, q3⟩
      have : k = 0 := by simpa using hk
      subst this
      simp only [List.getD_cons_zero]
      rw [hq]
      exact .nl
    | some a =>
      refine h2.calls X w av hX hs fun k hk => ?_
      have : k = 0 := by simpa using hk
      subst this
      simp only [List.getD_cons_zero]
      rw [hq]
      exact .e0 fun h => by cases h
  | rs h _ _ _ _ _ _ _ => exact absurd rfl h
theorem res_nl_rs {e : TypeId} {X : Nat → Prop} {w w' : World} {u : Value} (h : Res P X w w' .nl u) : Res P X w w' (.rs e []) u := by
  have h : VR P X none2 w' .nl u := h
  cases h
  exact (.rs0 fun _ => rfl : VR P X none2 w' (.rs e []) _)
theorem res_nl_ow {e : TypeId} {X : Nat → Prop} {w w' : World} {u : Value} (h : Res P X w w' .nl u) : Res P X w w' (.ow e [] (.sl 0 0 0)) u := by
  have h : VR P X none2 w' .nl u := h
  cases h
  exact ⟨none2, fun _ _ => rfl, fun b s e => by simp [none2] at e, fun h => absurd rfl h, by simp [freeB], .sl0 fun _ => rfl, rfl⟩
end Go.Ev
