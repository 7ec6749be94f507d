/-
  The law WearRates returns true for every climate and all numbers, and leaves its arguments as they were. No conditions.
-/
import Derived.Test.YteclfchlejocmaaEvT
set_option linter.unusedVariables false
set_option linter.unusedSimpArgs false
namespace Go.Ev
open Go Go.RowKit

variable {P : Program} {w0 : Base} {X D : Nat → Prop} {R : Nat → Option (Nat × Nat)} {st : St} {a : Act} {w : World}
variable {ro : Option Nat} {n : Nat} {Q : Exit → Act → World → Prop} {ρ : Type} {S : Spec} {RO : Nat → Bool} {L : LSpec}

/-- **Code.** -/
theorem evC_sound (hs : SpecOK P S) (hm : P.follows .mixedOrders = true) : ∀ (c : Code) (p : Pl) (lo : Nat) (nr : Bool) (ro : Option Nat) (n : Nat), LOK P S RO L lo nr c p → (nr = false → ro = none) → Walks P S RO L c p lo nr ro n := by
  intro c
  induction c with
  | skip =>
    intro p lo nr ro n hL hnr w0 X ρ st a w D R K r Q h hf hlo he hn
    exact wpIn_skip (hn D R .nrm st a w h hf (fun _ _ => rfl) (fun _ => rfl) hlo rfl he)
  | region id ops draw =>
    intro p lo nr ro n hL hnr w0 X ρ st a w D R K r Q h hf hlo he hn
    simp only [evC] at he
    obtain ⟨hdr, he2⟩ := cond_some he
    clear he
    cases draw with
    | false =>
      refine wpIn_region ?_
      rw [List.range_eq_range']
      have := evOps_sound (ro := ro) (n := n) (Q := Q) hs (base := st.nx) ops.toList 0 (ops := ops) (fun i => by simp) h (by simpa using hf) he2 fun D' R' st' a' w' hS hf' hRR hdd hx ht hK => by
        refine hn D' R' .nrm _ a' w' (show SR P w0 X D' R' { st' with nx := st'.nx + ops.size } a' w' from ⟨hS.tmp, hS.nt, hS.mem, hS.own, hS.inj, hS.X, hS.lt, hS.old, hS.df⟩) ?_ (fun id hid => hRR id (by omega)) (fun _ => hdd) (by simp only [hx]; omega) ht hK
        simpa [hx] using hf'
      simpa using this
    | true =>
      refine evDraw_sound hs hm (by simpa using hdr) h hf he2 fun D' R' st' a' w' hS hf' hRR hdd hx ht hK => ?_
      refine hn D' R' .nrm _ a' w' (show SR P w0 X D' R' { st' with nx := st'.nx + ops.size } a' w' from ⟨hS.tmp, hS.nt, hS.mem, hS.own, hS.inj, hS.X, hS.lt, hS.old, hS.df⟩) ?_ (fun id hid => hRR id (by omega)) (fun _ => hdd) (by simp only [hx]; omega) ht hK
      simpa [hx] using hf'
  | seq x y ihx ihy =>
    intro p lo nr ro n hL hnr w0 X ρ st a w D R K r Q h hf hlo he hn
    simp only [evC] at he
    refine wpIn_seq (ihx (false :: p) lo nr ro n hL.1 hnr h hf hlo he fun D' R' e st' a' w' hS hf' hRR hdd hlo' ht hK => ?_)
    cases e with
    | nrm =>
      simp only at hK
      exact ihy (true :: p) lo nr ro n hL.2 hnr hS hf' hlo' hK fun D'' R'' e'' st'' a'' w'' hS' hf'' hRR' hdd' hlo'' ht' hK' => hn D'' R'' e'' st'' a'' w'' hS' hf'' (fun id hid => (hRR' id hid).trans (hRR id hid)) (fun hq => (hdd' hq).trans (hdd hq)) hlo'' (ht'.trans ht) hK'
    | ext id => exact hn D' R' (.ext id) st' a' w' hS hf' hRR hdd hlo' ht hK
    | ret => exact hn D' R' .ret st' a' w' hS hf' hRR hdd hlo' ht hK
  | cond c x y ihx ihy =>
    intro p lo nr ro n hL hnr w0 X ρ st a w D R K r Q h hf hlo he hn
    simp only [evC] at he
    have hv := h.val c
    split at he
    · rename_i t b hval
      rw [hval] at hv
      have hb := hv.bool_inv
      refine wpIn_cond hb ?_
      have hk : ∀ b', b' = b → SR P w0 X D R (st.put (some t) (.b b')) a w := fun b' e => h.know (d := t) (v := .b b') (by rw [e]; exact hv)
      cases b
      · simp only [cond_false] at he
        simp only [Bool.false_eq_true, if_false]
        exact ihy (true :: p) lo nr ro n hL.2 hnr (hk false rfl) hf hlo he fun D' R' e st' a' w' hS hf' hRR hdd hlo' ht hK => hn D' R' e st' a' w' hS hf' hRR hdd hlo' ht hK
      · simp only [cond_true] at he
        simp only [if_true]
        exact ihx (false :: p) lo nr ro n hL.1 hnr (hk true rfl) hf hlo he fun D' R' e st' a' w' hS hf' hRR hdd hlo' ht hK => hn D' R' e st' a' w' hS hf' hRR hdd hlo' ht hK
    · rename_i b _ hval
      rw [hval] at hv
      have hb := hv.bool_inv
      refine wpIn_cond hb ?_
      cases b
      · simp only [cond_false] at he
        simp only [Bool.false_eq_true, if_false]
        exact ihy (true :: p) lo nr ro n hL.2 hnr h hf hlo he hn
      · simp only [cond_true] at he
        simp only [if_true]
        exact ihx (false :: p) lo nr ro n hL.1 hnr h hf hlo he hn
    · cases he
  | block id c ih =>
    intro p lo nr ro n hL hnr w0 X ρ st a w D R K r Q h hf hlo he hn
    simp only [evC] at he
    refine wpIn_block (ih (false :: p) lo nr ro n hL hnr h hf hlo he fun D' R' e st' a' w' hS hf' hRR hdd hlo' ht hK => ?_)
    cases e with
    | nrm => exact hn D' R' .nrm st' a' w' hS hf' hRR hdd hlo' ht hK
    | ret => exact hn D' R' .ret st' a' w' hS hf' hRR hdd hlo' ht hK
    | ext j =>
      simp only at hK
      simp only [Ex.exit, Exit.inBlock]
      cases hj : Nat.beq j id with
      | true =>
        rw [hj] at hK
        have := Nat.eq_of_beq_eq_true hj
        rw [if_pos this]
        exact hn D' R' .nrm st' a' w' hS hf' hRR hdd hlo' ht hK
      | false =>
        rw [hj] at hK
        have : j ≠ id := fun e => by rw [e, Nat.beq_refl] at hj; cases hj
        rw [if_neg this]
        exact hn D' R' (.ext j) st' a' w' hS hf' hRR hdd hlo' ht hK
  | loop c ih =>
    intro p lo nr ro n hL hnr w0 X ρ st a w D R K r Q h hf hlo he hn
    obtain ⟨hLp, hLc⟩ := hL
    simp only [evC] at he
    cases hl : L p st with
    | none => rw [hl] at he; cases he
    | some x =>
      obtain ⟨pre, e, s⟩ := x
      rw [hl] at he
      obtain ⟨hpre, he2⟩ := cond_some he
      clear he
      rw [hpre] at hl
      obtain ⟨keep, nb, hlonb, hLB⟩ := hLp st e s hlo hl
      refine loop_of ?_
      clear hl hLp
      generalize hnt : st.nt = nt at hn
      generalize hR0 : R = R0 at hn
      have hR0' : ∀ id, id < lo → R id = R0 id := fun id _ => by rw [hR0]
      clear hR0
      generalize hA0 : a.defers = A0 at hn
      have hA0' : nr = true → a.defers = A0 := fun _ => hA0
      clear hA0
      -- the rounds
      induction hLB generalizing a w D R with
      | @stop st e s h1 h2 =>
        refine of_loop (ih (false :: p) lo nr ro n hLc hnr h hf hlo h1 fun D' R' e' st' a' w' hS hf' hRR hdd hlo' ht hK => ?_)
        cases hno : norm P keep nb st' with
        | none => rw [hno] at hK; cases hK
        | some s' =>
          rw [hno] at hK
          simp only [Option.some.injEq, Prod.mk.injEq] at hK
          obtain ⟨rfl, rfl⟩ := hK
          obtain ⟨g1, g2, g3, g4⟩ := norm_sound hS hno
          have := hn D' _ e' s' a' w' g1 g2 (fun id hid => by simp only [show id < nb by omega, if_true]; exact (hRR id hid).trans (hR0' id hid)) (fun hq => (hdd hq).trans (hA0' hq)) (by omega) (g4.trans (ht.trans hnt)) he2
          cases e' with
          | nrm => exact absurd rfl h2
          | ext id => exact this
          | ret => exact this
      | @more st s1 e s h1 h2 ih2 =>
        refine of_loop (ih (false :: p) lo nr ro n hLc hnr h hf hlo h1 fun D' R' e' st' a' w' hS hf' hRR hdd hlo' ht hK => ?_)
        cases hno : norm P keep nb st' with
        | none => rw [hno] at hK; cases hK
        | some s' =>
          rw [hno] at hK
          simp only [Option.some.injEq, Prod.mk.injEq] at hK
          obtain ⟨rfl, rfl⟩ := hK
          obtain ⟨g1, g2, g3, g4⟩ := norm_sound hS hno
          exact ih2 g1 g2 (by omega) he2 (g4.trans (ht.trans hnt)) (fun id hid => by simp only [show id < nb by omega, if_true]; exact (hRR id hid).trans (hR0' id hid)) (fun hq => (hdd hq).trans (hA0' hq))
      | @enter st s1 e s h1 h2 ih2 =>
        obtain ⟨g1, g2, g3, g4⟩ := norm_sound h h1
        exact ih2 g1 g2 (by omega) he2 (g4.trans hnt) (fun id hid => by simp only [show id < nb by omega, if_true]; exact hR0' id hid) hA0'
  | rangeFunc g ps assign body iha ihb =>
    intro p lo nr ro n hL hnr w0 X ρ st a w D R K r Q h hf hlo he hn
    obtain ⟨hnr0, hLp, hLa, hLb⟩ := hL
    have hro := hnr hnr0
    subst hro
    simp only [evC] at he
    cases hl : L p st with
    | none => rw [hl] at he; cases he
    | some x =>
      obtain ⟨pre, e, s⟩ := x
      rw [hl] at he
      obtain ⟨hpre, he2⟩ := cond_some he
      rw [hpre] at hl
      obtain ⟨keep, nb, hlonb, hRB⟩ := hLp st e s hlo hl
      refine rangeFunc_law (fun l m => iha (false :: p) nb true (some l) m (hLa nb) (by simp)) (fun l m => ihb (true :: p) nb true (some l) m (hLb nb) (by simp)) h hRB fun D' R' a' w' hS hf' hRR hx ht => ?_
      exact hn D' R' e s a' w' hS hf' (fun id hid => hRR id (by omega)) (fun hq => by rw [hnr0] at hq; cases hq) (by omega) ht he2
  | exit id =>
    intro p lo nr ro n hL hnr w0 X ρ st a w D R K r Q h hf hlo he hn
    exact wpIn_exit (hn D R (.ext id) st a w h hf (fun _ _ => rfl) (fun _ => rfl) hlo rfl he)
  | ret =>
    intro p lo nr ro n hL hnr w0 X ρ st a w D R K r Q h hf hlo he hn
    exact wpIn_ret (hn D R .ret st a w h hf (fun _ _ => rfl) (fun _ => rfl) hlo rfl he)
  | _ => intro p lo nr ro n hL hnr w0 X ρ st a w D R K r Q h hf hlo he hn; simp [evC] at he
end Go.Ev
