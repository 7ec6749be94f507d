/-
  The law WearRates returns true for every climate and all numbers, and leaves its arguments as they were. No conditions.
-/
import Derived.Test.YteclfchlejocmaaEvP
set_option linter.unusedVariables false
set_option linter.unusedSimpArgs false
namespace Go.Ev
open Go Go.RowKit

variable {P : Program} {w0 : Base} {X D : Nat → Prop} {R : Nat → Option (Nat × Nat)} {st : St} {a : Act} {w : World}
variable {ro : Option Nat} {n : Nat} {Q : Exit → Act → World → Prop} {S : Spec} {RO : Nat → Bool} {L : LSpec}

theorem round_law {ps : List Nat} {assign body : Code} {p : Pl} {nb m : Nat} {l : Nat} {rec : LoopState → Option Code → Loop} (hrec : ∀ s pe, rec s pe = { rec .ready none with state := s, pending := pe })
    (ha : Walks P S RO L assign (false :: p) nb true (some l) m) (hb : Walks P S RO L body (true :: p) nb true (some l) m) {stc : St} {W : World}
    (hS : SR P w0 X (least X R) R stc a W) (hR1 : ∀ id, nb ≤ id → R id = none) (hnx : stc.nx = nb) (hlX : ¬ least X R l) (hl0 : w0.w.heap.size ≤ l)
    (hW : W.heap[l]? = some (.loop (rec .ready none))) (hps : ∀ q, q ∈ ps → q < stc.nt) {x : List AV} (hx : plainL x = true) {e1 : Ex} {s1 : St}
    (hr : roundF P S RO L ps assign body p nb stc x = some (e1, s1)) {Rp : Ending → World → Prop}
    (hRp : ∀ W', (s1.t = stc.t ∧ s1.nx = stc.nx ∧ s1.nt = stc.nt) → SR P w0 X (least X R) R s1 a W' → Keep l (rowsOf R) W W' → W'.heap[l]? = some (.loop (rec (if e1.jump.isNone then .ready else .done) e1.jump)) → Rp (.returned (.bool e1.jump.isNone)) W') :
    assign.wpIn (FW (some l)) m P (Exit.then (fun a₁ w₁ => ∃ w₂, (Instr.beginRound l).run P w₁ = .ok () w₂ ∧ body.wpIn (FW (some l)) m P (roundPost P l Rp) a₁ w₂) (fun _ _ _ => False))
      { tmps := (ps.zip (toVL x)).foldl (fun t (p, v) => t.setIfInBounds p v) a.tmps, defers := [] } W := by
  unfold roundF at hr
  have hlW := (Array.getElem?_eq_some_iff.1 hW).1
  have hnl : ¬ rowsOf R l := fun h => hlX (.inr h)
  obtain ⟨t1, t2, t3, t4, t5⟩ := startR_sound ps x (st := stc) hS.tmp (fun q hq => by rw [hS.nt]; exact hps q hq) hx
  have hSr : SR P ⟨W, rowsOf R, 0, Nat.zero_le _⟩ X (least X R) R (startR ps x stc) { tmps := (ps.zip (toVL x)).foldl (fun t (p, v) => t.setIfInBounds p v) a.tmps, defers := [] } W :=
    ⟨t1, by rw [t2, t5]; exact hS.nt, fun id e es he => hS.mem id e es (by rw [t3] at he; exact he), fun id b s e => ⟨(hS.own id b s e).1, .inr ⟨id, s, e⟩⟩, hS.inj, hS.X, hS.lt,
      ⟨rfl, rfl, rfl, Nat.le_refl _, fun _ _ _ => rfl⟩, ⟨[], rfl, by simp, fun b h => by simp at h⟩⟩
  refine ha hSr (fun id hid => hR1 id (by rw [t4, hnx] at hid; exact hid)) (by rw [t4, hnx]; exact Nat.le_refl _) hr fun D2 R2 e2 s2 a2 W2 h2 hf2 hR2 _ hlo2 hnt2 hK2 => ?_
  cases e2 with
  | ext id => simp at hK2
  | ret => simp at hK2
  | nrm =>
    simp only at hK2
    have hl2 : W2.heap[l]? = some (.loop (rec .ready none)) := (h2.old.block l hlW hnl).trans hW
    have hlW2 := (Array.getElem?_eq_some_iff.1 hl2).1
    have hn2 : ∀ b, b < W.heap.size → rowsOf R2 b → rowsOf R b := fun b hb ⟨id, s, e⟩ => by
      rcases (h2.own id b s e).2 with g | g
      · simp only at g; omega
      · exact g
    refine ⟨_, run_beginRound hl2 (by rw [hrec]), ?_⟩
    generalize hW3 : W2.putObj l (.loop { rec .ready none with state := .busy }) = W3
    have hl3 : W3.heap[l]? = some (.loop { rec .ready none with state := .busy }) := by rw [← hW3]; exact World.putObj_heap_same hlW2
    have ho3 : ∀ k, k ≠ l → W3.heap[k]? = W2.heap[k]? := fun k hk => by rw [← hW3]; exact World.putObj_heap_other hk
    have hz3 : W3.heap.size = W2.heap.size := by rw [← hW3]; simp
    have c3 : ∀ b o u, W2.cell? ⟨b, o, none⟩ = some u → W3.cell? ⟨b, o, none⟩ = some u := fun b o u hc => (World.cell?_of_block (ho3 b (cells_ne hl2 hc))).trans hc
    have hS3 : SR P ⟨W3, rowsOf R2, 0, Nat.zero_le _⟩ X D2 R2 s2 a2 W3 := by
      have mono : ∀ {x : AV} {v : Value}, VR P D2 R2 W2 x v → VR P D2 R2 W3 x v := fun hv => hv.mono' (fun _ _ e => e) (fun b o u hd hc => ⟨hd, c3 b o u hc⟩)
      refine ⟨fun t => mono (h2.tmp t), h2.nt, fun id e es he => ?_, fun id b s e => ⟨(h2.own id b s e).1, .inr ⟨id, s, e⟩⟩, h2.inj, h2.X, fun b hd => by rw [hz3]; exact h2.lt b hd, ⟨rfl, rfl, rfl, Nat.le_refl _, fun _ _ _ => rfl⟩, ?_⟩
      · obtain ⟨b, cells, ty, g1, g2, g3, g4, g5, g6, g7⟩ := h2.mem id e es he
        refine ⟨b, cells, ty, g1, (ho3 b (fun e => by rw [e, hl2] at g2; cases g2)).trans g2, g3, g4, g5, g6, fun i j hi hj => ?_⟩
        obtain ⟨v, q1, q2⟩ := g7 i j hi hj
        exact ⟨v, q1, mono q2⟩
      · obtain ⟨ds, d1, d2, d3⟩ := h2.df
        exact ⟨ds, d1, d2, fun b hb => ⟨(ho3 b (fun e => by have := (d3 b hb).1; rw [e, hl2] at this; cases this)).trans (d3 b hb).1, (d3 b hb).2.1, Nat.zero_le _⟩⟩
    refine hb hS3 hf2 hlo2 hK2 fun D4 R4 e4 s4 a4 W4 h4 hf4 hR4 _ hlo4 hnt4 hK4 => ?_
    simp only [Option.some.injEq, Prod.mk.injEq] at hK4
    obtain ⟨rfl, rfl⟩ := hK4
    have hl4 : W4.heap[l]? = some (.loop { rec .ready none with state := .busy }) := (h4.old.block l (by simp only; omega) (fun h => hnl (hn2 l hlW h))).trans hl3
    have hlW4 := (Array.getElem?_eq_some_iff.1 hl4).1
    have hend := run_endRound (P := P) e4.jump hl4
    generalize hW5 : W4.putObj l (.loop { { rec .ready none with state := .busy } with state := if e4.jump.isNone then .ready else .done, pending := e4.jump }) = W5 at hend
    have hl5 : W5.heap[l]? = some (.loop (rec (if e4.jump.isNone then .ready else .done) e4.jump)) := by rw [← hW5, hrec (if e4.jump.isNone then .ready else .done)]; exact World.putObj_heap_same hlW4
    have ho5 : ∀ k, k ≠ l → W5.heap[k]? = W4.heap[k]? := fun k hk => by rw [← hW5]; exact World.putObj_heap_other hk
    have hk : Keep l (rowsOf R) W W5 := by
      have k1 : Keep l (rowsOf R) W W2 := h2.old.keep
      have k2 : Keep l (rowsOf R) W W3 := k1.trans (Z' := fun _ => False) (by rw [← hW3]; exact Keep.put _ _) (fun _ _ h => h.elim)
      have k3 : Keep l (rowsOf R) W W4 := k2.trans h4.old.keep hn2
      exact k3.trans (Z' := fun _ => False) (by rw [← hW5]; exact Keep.put _ _) (fun _ _ h => h.elim)
    have hRR : ∀ id, id < nb → R id = R4 id := fun id hid => ((hR4 id hid).trans (hR2 id hid)).symm
    have hD : ∀ b, least X R b → D4 b := fun b hb => by
      rcases hb with hb | ⟨id, s, hb⟩
      · exact h4.X b hb
      · have hid : id < nb := by
          rcases Nat.lt_or_ge id nb with h' | h'
          · exact h'
          · rw [hR1 id h'] at hb; cases hb
        rw [hRR id hid] at hb
        exact (h4.own id b s hb).1
    have hS5 : SR P w0 X (least X R) R { stc with m := (List.range nb).map fun id => (id, keepB P nb (gm s4.m id)) } a W5 := by
      refine ⟨fun t => (hS.tmp t).keep hk hW (fun b hb => .inr hb), hS.nt, fun id e es he => ?_, hS.own, hS.inj, hS.X, fun b hd => Nat.lt_of_lt_of_le (hS.lt b hd) hk.size, ?_, ?_⟩
      · simp only [gm_range] at he
        split at he
        · rename_i hid
          obtain ⟨he, hfb'⟩ := keepB_row he
          obtain ⟨b, cells, ty, g1, g2, g3, g4, g5, g6, g7⟩ := h4.mem id e es he
          refine ⟨b, cells, ty, (hRR id hid).trans g1, (ho5 b (fun e => by rw [e, hl4] at g2; cases g2)).trans g2, g3, g4, g5, g6, fun i j hi hj => ?_⟩
          obtain ⟨v, q1, q2⟩ := g7 i j hi hj
          exact ⟨v, q1, (rows_keep (R' := R) hRR g6 g3 hfb' hi hj q2).mono' (fun _ _ e => e) fun b o u hd hc => ⟨fun hx => hd (hD b hx), (World.cell?_of_block (ho5 b (cells_ne hl4 hc))).trans hc⟩⟩
        · cases he
      · refine ⟨hk.os.trans hS.old.os, hk.tape.trans hS.old.tape, hk.output.trans hS.old.output, Nat.le_trans hS.old.size hk.size, fun k hk0 hY => (hk.block k (Nat.lt_of_lt_of_le hk0 hS.old.size) (by omega) (fun ⟨id, s, e⟩ => ?_)).trans (hS.old.block k hk0 hY)⟩
        rcases (hS.own id k s e).2 with g | g
        · omega
        · exact hY g
      · obtain ⟨ds, d1, d2, d3⟩ := hS.df
        refine ⟨ds, d1, d2, fun b hb => ⟨(hk.block b (Array.getElem?_eq_some_iff.1 (d3 b hb).1).1 (fun e => ?_) (fun h => (d3 b hb).2.1 (.inr h))).trans (d3 b hb).1, (d3 b hb).2⟩⟩
        have := (d3 b hb).1
        rw [e, hW] at this
        cases this
    have key := hRp W5 ⟨rfl, rfl, rfl⟩ hS5 hk hl5
    cases e4 with
    | nrm => exact ⟨_, _, hend, key⟩
    | ret => exact ⟨_, _, hend, key⟩
    | ext id => exact ⟨_, _, hend, key⟩
end Go.Ev
