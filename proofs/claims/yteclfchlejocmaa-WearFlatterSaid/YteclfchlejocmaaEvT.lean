/-
  The law WearRates returns true for every climate and all numbers, and leaves its arguments as they were. No conditions.
-/
import Derived.Test.YteclfchlejocmaaEvQ
set_option linter.unusedVariables false
set_option linter.unusedSimpArgs false
namespace Go.Ev
open Go Go.RowKit

variable {P : Program} {w0 : Base} {X D : Nat → Prop} {R : Nat → Option (Nat × Nat)} {st : St} {a : Act} {w : World}
variable {ro : Option Nat} {n : Nat} {Q : Exit → Act → World → Prop} {S : Spec} {RO : Nat → Bool} {L : LSpec}

theorem zip_foldl (ps : Array Nat) (x : List AV) (t : Array Value) :
    (ps.zip (encV x)).foldl (fun t (p, v) => t.setIfInBounds p v) t = (ps.toList.zip (toVL x)).foldl (fun t (p, v) => t.setIfInBounds p v) t := by
  rw [← Array.foldl_toList, Array.toList_zip]
  rfl

theorem rounds_inv {ps : List Nat} {assign body : Code} {p : Pl} {nb : Nat} {st : St} {x : List AV} {xs : List (List AV)} {e : Ex} {s : St} (h : Rounds P S RO L ps assign body p nb st (x :: xs) e s) :
    ∃ e1 s1, roundF P S RO L ps assign body p nb st x = some (e1, s1) ∧ ((e1 = .nrm ∧ Rounds P S RO L ps assign body p nb s1 xs e s) ∨ (e1 ≠ .nrm ∧ e = e1 ∧ s = s1)) := by
  cases h with
  | go h1 h2 => exact ⟨_, _, h1, .inl ⟨rfl, h2⟩⟩
  | out h1 h2 => exact ⟨_, _, h1, .inr ⟨h2, rfl, rfl⟩⟩

theorem mark1_inj : ∀ (l l' : List Nat), l.map mark1 = l'.map mark1 → l' = l
  | [], l', h => by cases l' <;> simp at h ⊢
  | x :: l, l', h => by
    cases l' with
    | nil => simp at h
    | cons y l' =>
      simp only [List.map_cons, List.cons.injEq] at h
      have hxy : x = y := by have := h.1; simpa [mark1] using this
      rw [hxy, mark1_inj l l' h.2]
theorem SR.mark (h : SR P w0 X D R st a w) {b : Nat} (hb1 : w.heap[b]? = some (.deferred (some []))) (hb2 : ¬ D b) (hb3 : w0.B ≤ b) (hnew : ∀ ds : List Nat, a.defers = ds.map mark1 → b ∉ ds) :
    SR P w0 X D R st { a with defers := { target := .collected b, args := #[] } :: a.defers } w := by
  obtain ⟨ds, d1, d2, d3⟩ := h.df
  refine { h with df := ⟨b :: ds, by simp [d1, mark1], List.nodup_cons.2 ⟨hnew ds d1, d2⟩, ?_⟩ }
  intro b' hb'
  rcases List.mem_cons.1 hb' with rfl | hb'
  · exact ⟨hb1, hb2, hb3⟩
  · exact d3 b' hb'
/-- The loop's record is turned. -/
theorem SR.putLoop (h : SR P w0 X D R st a w) {l : Nat} {r : Loop} (hl : w.heap[l]? = some (.loop r)) (r' : Loop) (hl0 : w0.w.heap.size ≤ l) : SR P w0 X D R st a (w.putObj l (.loop r')) := by
  have ho : ∀ k, k ≠ l → (w.putObj l (.loop r')).heap[k]? = w.heap[k]? := fun k hk => World.putObj_heap_other hk
  have mono : ∀ {x : AV} {v : Value}, VR P D R w x v → VR P D R (w.putObj l (.loop r')) x v := fun hv => hv.mono' (fun _ _ e => e) (fun b o u hd hc => ⟨hd, (World.cell?_of_block (ho b (cells_ne hl hc))).trans hc⟩)
  refine ⟨fun t => mono (h.tmp t), h.nt, fun id e es he => ?_, h.own, h.inj, h.X, fun b hd => by simpa using h.lt b hd, ?_, ?_⟩
  · obtain ⟨b, cells, ty, g1, g2, g3, g4, g5, g6, g7⟩ := h.mem id e es he
    refine ⟨b, cells, ty, g1, (ho b (fun e => by rw [e, hl] at g2; cases g2)).trans g2, g3, g4, g5, g6, fun i j hi hj => ?_⟩
    obtain ⟨v, q1, q2⟩ := g7 i j hi hj
    exact ⟨v, q1, mono q2⟩
  · exact ⟨h.old.os, h.old.tape, h.old.output, by simpa using h.old.size, fun k hk hY => (ho k (by omega)).trans (h.old.block k hk hY)⟩
  · obtain ⟨ds, d1, d2, d3⟩ := h.df
    exact ⟨ds, d1, d2, fun b hb => ⟨(ho b (fun e => by have := (d3 b hb).1; rw [e, hl] at this; cases this)).trans (d3 b hb).1, (d3 b hb).2⟩⟩

theorem norm_free {keep : List Nat} {nb : Nat} {st st' : St} (hn : norm P keep nb st = some st') (t : Nat) : free P nb (gt st'.t t) = true := by
  unfold norm at hn
  obtain ⟨hc, hn⟩ := cond_some hn
  simp only [Option.some.injEq] at hn
  subst hn
  rcases gt_keep (fun k => keepV P nb (gt st.t k)) keep t with e | e
  · simp only; rw [e]; rfl
  · simp only; rw [e]; exact (keepV_free nb _).1

/-- **A range over a function.** -/
theorem rangeFunc_law {g : Operand} {ps : Array Tmp} {assign body : Code} {p : Pl} {nb : Nat} {keep : List Nat}
    (ha : ∀ l m, Walks P S RO L assign (false :: p) nb true (some l) m) (hb : ∀ l m, Walks P S RO L body (true :: p) nb true (some l) m)
    (h : SR P w0 X D R st a w) {e : Ex} {s : St} (hRB : RB P S RO L g ps.toList assign body p keep nb st e s)
    (hn : ∀ D' R' a' w', SR P w0 X D' R' s a' w' → Fresh R' s.nx → (∀ id, id < nb → R' id = R id) → s.nx = nb → s.nt = st.nt → Q e.exit a' w') :
    (Code.rangeFunc g ps assign body).wpIn (FW none) n P Q a w := by
  obtain ⟨gf, caps, xs, st1, hg, hfree, hcon, hlen, hps, hno, hrounds⟩ := hRB
  obtain ⟨hS1, hF1, hnx1, hnt1⟩ := norm_sound h hno
  have hS := hS1.shrink
  have hDw : ∀ b, least X (fun id => if id < nb then R id else none) b → b < w.heap.size := hS.lt
  have hsubD : ∀ b, least X (fun id => if id < nb then R id else none) b → D b := hS1.least_sub
  have hRn : ∀ id, nb ≤ id → (fun id => if id < nb then R id else none) id = none := fun id hid => by simp [show ¬ id < nb by omega]
  have hRl : ∀ id, id < nb → (fun id => if id < nb then R id else none) id = R id := fun id hid => by simp [hid]
  generalize hR1 : (fun id => if id < nb then R id else none) = R1 at *
  -- the function
  have hval := h.val g
  rw [hg] at hval
  generalize hgv : a.eval g = gv at hval
  cases hval with
  | @fn _ _ cv hcs hcv =>
  obtain ⟨fn0, hfn0, hname0, hbody0⟩ := hcon.fn
  have hcaps : ∀ k, k < caps.length → VR P (least X R1) none2 w (caps.getD k .u) (cv.getD k undef) := fun k hk =>
    ((VR.free_any (nb := 0) (R' := none2) (fun _ h => absurd h (by omega)) (hcv k hk)).1 (freeL_at hfree hk)).mono' (fun _ _ e => e) (fun b o u hd hc => ⟨fun hx => hd (hsubD b hx), hc⟩)
  refine wpIn_rangeFunc ?_
  intro fn hfn
  rw [show (FW none).round = none from rfl]
  obtain ⟨rec, hrec⟩ : ∃ rec : LoopState → Option Code → Loop, rec = fun st pe => { state := st, pending := pe, fn, tmps := a.tmps, params := ps, assign, body, defers := w.heap.size } := ⟨_, rfl⟩
  obtain ⟨W1, hW1⟩ : ∃ W1, (w.alloc (.deferred (some []))).alloc (.loop (rec .ready none)) = W1 := ⟨_, rfl⟩
  have hB1 : Below w.heap.size w W1 := by rw [← hW1]; exact ((Below.refl _ w).alloc (Nat.le_refl _) _).alloc (by simp) _
  have hL1 : W1.heap[w.heap.size + 1]? = some (.loop (rec .ready none)) := by
    rw [← hW1]; have := World.alloc_heap_new (w.alloc (.deferred (some []))) (.loop (rec .ready none)); rwa [World.size_alloc] at this
  have hK1 : W1.heap[w.heap.size]? = some (.deferred (some [])) := by
    rw [← hW1]; exact (Below.heap_alloc _ _ _ (by simp)).trans (World.alloc_heap_new w _)
  have hlX : ¬ least X R1 (w.heap.size + 1) := fun hx => by have := hDw _ hx; omega
  have hkX : ¬ least X R1 w.heap.size := fun hx => by have := hDw _ hx; omega
  refine ⟨w.heap.size + 1, [{ target := .collected w.heap.size, args := #[] }], W1, { target := .fn (.func gf) cv, args := #[.func (.yield (w.heap.size + 1)) #[] #[]] }, W1, gf,
    #[.func (.yield (w.heap.size + 1)) #[] #[]] ++ cv, W1, ?_, ?_, fun _ _ => trivial, ?_, fun hh => by simp [FW, Fence.wide] at hh, ?_⟩
  · rw [← hW1, hrec]; exact run_enterLoop_outer _ _ _ _ _
  · simp only [resolve, hgv]
    simp [go_sem]
  · have hbody0' : fn0.body.isNone = false := by
      cases hb0 : fn0.body <;> simp [hb0] at hbody0 ⊢
    simp only [invoke, callFunc, Sem.run_bind, run_program, Result.andThen_ok, hfn0, hname0, hbody0', Bool.false_eq_true, if_false, Sem.run_pure]
  · refine (hcon.seq (least X R1) (n - 1) W1 cv (fun b hb' => Nat.lt_of_lt_of_le (hDw b hb') hB1.size) hcs (fun k hk => (hcaps k hk).mono (fun _ _ e => e) (fun b hlt hd => ⟨hd, hB1.block b hlt⟩)) (w.heap.size + 1)
      (fun i W => (∃ stc, SR P w0 X (least X R1) R1 stc a W ∧ stc.nx = nb ∧ stc.nt = st.nt ∧ Rounds P S RO L ps.toList assign body p nb stc (xs.drop i) e s) ∧
        W.heap[w.heap.size + 1]? = some (.loop (rec .ready none)) ∧ W.heap[w.heap.size]? = some (.deferred (some [])))
      (fun W => (SR P w0 X (least X R1) R1 s a W ∧ s.nx = nb ∧ s.nt = st.nt ∧ e ≠ .nrm) ∧
        W.heap[w.heap.size + 1]? = some (.loop (rec .done e.jump)) ∧ W.heap[w.heap.size]? = some (.deferred (some [])))
      ?_ ?_ ?_ ?_).mono ?_
    · rintro i W W' ⟨⟨stc, g1, g2⟩, g3, g4⟩ hbl
      exact ⟨⟨stc, g1.world hbl, g2⟩, (hbl.block _ (Array.getElem?_eq_some_iff.1 g3).1).trans g3, (hbl.block _ (Array.getElem?_eq_some_iff.1 g4).1).trans g4⟩
    · rintro W W' ⟨⟨g1, g2⟩, g3, g4⟩ hbl
      exact ⟨⟨g1.world hbl, g2⟩, (hbl.block _ (Array.getElem?_eq_some_iff.1 g3).1).trans g3, (hbl.block _ (Array.getElem?_eq_some_iff.1 g4).1).trans g4⟩
    · exact ⟨⟨st1, hS.world hB1, hnx1, hnt1, hrounds⟩, hL1, hK1⟩
    · rintro i x W m ⟨⟨stc, g1, g2, g3, g4⟩, hl, hk⟩ hx
      have hmem : x ∈ xs := List.mem_of_getElem? hx
      have hdrop : xs.drop i = x :: xs.drop (i + 1) := by
        obtain ⟨hi, he⟩ := List.getElem?_eq_some_iff.1 hx
        rw [← he]; exact List.drop_eq_getElem_cons hi
      rw [hdrop] at g4
      obtain ⟨e1, s1, hr1, hcase⟩ := rounds_inv g4
      have hsz : (encV x).size = ps.size := by simp [encV, toVL_length, hlen x hmem]
      have hy := run_yield (P := P) (args := encV x) hl (by rw [hrec]; exact hsz)
      rw [hrec] at hy
      simp only [zip_foldl] at hy
      refine ⟨fn, _, assign, body, hy, roundIn_of_wpIn hfn (round_law (rec := rec) (fun s pe => by rw [hrec]) (ha _ _) (hb _ _) g1 hRn g2 hlX (by have := hS.old.size; omega) hl (fun q hq => by rw [g3]; exact hps q hq) (hcon.plain x hmem) hr1 fun W' ⟨k1, k2, k3⟩ hS' hkp hl' => ?_)⟩
      have hkp' : KpOf (least X R1) W W' := ⟨hkp.os, hkp.tape, hkp.output, hkp.size, fun k o ho hc hY => (hkp.block k (Array.getElem?_eq_some_iff.1 ho).1 (fun e => by rw [e, hl] at ho; cases ho; cases hc) (fun hr => hY (.inr hr))).trans ho⟩
      have hk' : W'.heap[w.heap.size]? = some (.deferred (some [])) := (hkp.block _ (Array.getElem?_eq_some_iff.1 hk).1 (by omega) (fun hr => hkX (.inr hr))).trans hk
      rcases hcase with ⟨rfl, h2⟩ | ⟨hne, rfl, rfl⟩
      · exact .inl ⟨rfl, ⟨⟨s1, hS', k2.trans g2, k3.trans g3, h2⟩, hl', hk'⟩, hkp'⟩
      · refine .inr ⟨?_, ⟨hS', k2.trans g2, k3.trans g3, hne⟩, ?_, hk'⟩
        · cases e <;> simp [Ex.jump] at hne ⊢
        · cases e <;> simp [Ex.jump] at hne hl' ⊢ <;> exact hl'
    · rintro e' W2 ⟨⟨v, rfl⟩, hJ⟩
      have fin : ∀ (ls : LoopState) (W : World) (stc : St), SR P w0 X (least X R1) R1 stc a W → W.heap[w.heap.size + 1]? = some (.loop (rec ls e.jump)) → W.heap[w.heap.size]? = some (.deferred (some [])) → ls ≠ .busy →
          ∃ W', (Instr.endLoop (w.heap.size + 1)).run P W = .ok e.jump W' ∧ SR P w0 X (least X R1) R1 stc { a with defers := { target := .collected w.heap.size, args := #[] } :: a.defers } W' := by
        intro ls W stc hS' hl hk hls
        have hlt := (Array.getElem?_eq_some_iff.1 hl).1
        have hend := run_endLoop (P := P) hl (by rw [hrec]; exact hls)
        rw [hrec] at hend
        refine ⟨_, hend, SR.mark (hS'.putLoop hl _ (by have := hS.old.size; omega)) ((World.putObj_heap_other (by omega)).trans hk) hkX (by have := hS.old.size; have := w0.le; omega) (fun ds hds hm => ?_)⟩
        obtain ⟨ds', d1, _, d3⟩ := h.df
        rw [d1] at hds
        rw [mark1_inj _ _ hds] at hm
        have := (Array.getElem?_eq_some_iff.1 (d3 _ hm).1).1
        omega
      rcases hJ with ⟨⟨stc, g1, g2, g3, g4⟩, hl, hk⟩ | ⟨⟨g1, g2, g3, g4⟩, hl, hk⟩
      · rw [List.drop_length] at g4
        cases g4
        obtain ⟨W', q1, q2⟩ := fin .ready W2 _ g1 hl hk (by simp)
        exact ⟨none, W', q1, hn _ R1 _ W' q2 (fun id hid => hRn id (by omega)) (fun id hid => by rw [← hR1]; simp [hid]) g2 g3⟩
      · obtain ⟨W', q1, q2⟩ := fin .done W2 _ g1 hl hk (by simp)
        have key := hn _ R1 _ W' q2 (fun id hid => hRn id (by omega)) (fun id hid => by rw [← hR1]; simp [hid]) g2 g3
        refine ⟨e.jump, W', q1, ?_⟩
        cases e with
        | nrm => exact absurd rfl g4
        | ret => exact wpIn_ret key
        | ext id => exact wpIn_exit key
end Go.Ev
