/-
  The law WearRates returns true for every climate and all numbers, and leaves its arguments as they were. No conditions.
-/
import Derived.Test.YteclfchlejocmaaEvU
import Derived.RangeFuncLeaves
set_option linter.unusedVariables false
set_option linter.unusedSimpArgs false
namespace Go.Ev
open Go Go.RowKit

variable {P : Program} {w0 : Base} {X D : Nat → Prop} {R : Nat → Option (Nat × Nat)} {st : St} {a : Act} {w : World}
variable {ro : Option Nat} {n : Nat} {Q : Exit → Act → World → Prop} {ρ : Type} {S : Spec} {RO : Nat → Bool} {L : LSpec} 

def resM (tmps : Array Value) : ResultVar → Sem Value
  | .tmp t => pure (tmps.getD t undef)
  | .cell a t => do loadVar t (← asAddr (tmps.getD a undef))
theorem results_eq (fn : Func) (tmps : Array Value) : results fn tmps = (do
    let vs ← fn.results.mapM (resM tmps)
    pure (if h : vs.size = 1 then vs[0] else .tuple vs)) := by
  unfold results
  have : (fun x : ResultVar => (match x with
    | .tmp t => pure (tmps.getD t undef)
    | .cell a t => do loadVar t (← asAddr (tmps.getD a undef)) : Sem Value)) = resM tmps := by
    funext x; cases x <;> rfl
  rw [← this]
  rfl
theorem resV_sound (h : SR P w0 X D R st a w) {rv : ResultVar} {x : AV} (he : resV P st rv = some x) :
    ∃ v, (resM a.tmps rv).run P w = .ok v w ∧ VR P D R w x v := by
  cases rv with
  | tmp t =>
    simp only [resV, Option.some.injEq] at he
    subst he
    exact ⟨_, rfl, h.tmp t⟩
  | cell b t =>
    simp only [resV] at he
    have hp := h.tmp b
    generalize gt st.t b = p at he hp
    obtain ⟨x', u, h1, h2, h3⟩ := look_sound h hp he
    cases h3
    refine ⟨u, ?_, h2⟩
    simp only [resM]
    generalize a.tmps.getD b undef = q at h1 hp
    simp only [Instr.loadAt, Sem.run_bind] at h1
    cases hp <;> first | (simp [look] at he; done) | skip
    · simpa [asAddr, Instr.sureAddr] using h1
    · simpa [asAddr, Instr.sureAddr] using h1

theorem resVs_sound (h : SR P w0 X D R st a w) : ∀ {l : List ResultVar} {xs : List AV}, resVs P st l = some xs →
    ∃ vs : List Value, vs.length = xs.length ∧ (∀ k, k < xs.length → VR P D R w (xs.getD k .u) (vs.getD k undef)) ∧
      (l.mapM (resM a.tmps)).run P w = .ok vs w
  | [], xs, he => by
    simp only [resVs, Option.some.injEq] at he
    subst he
    exact ⟨[], rfl, fun k hk => by simp at hk, by simp⟩
  | r :: l, xs, he => by
    simp only [resVs] at he
    cases h1 : resV P st r with
    | none => simp [h1] at he
    | some x =>
      cases h2 : resVs P st l with
      | none => simp [h1, h2] at he
      | some ys =>
        simp only [h1, h2, Option.some.injEq] at he
        subst he
        obtain ⟨v, g1, g2⟩ := resV_sound h h1
        obtain ⟨vs, i1, i2, i3⟩ := resVs_sound h h2
        refine ⟨v :: vs, by simp [i1], fun k hk => ?_, ?_⟩
        · cases k with
          | zero => simpa using g2
          | succ k => simpa using i2 k (by simpa using hk)
        · rw [List.mapM_cons]
          simp only [Sem.run_bind, g1, i3, Result.andThen_ok, Sem.run_pure]

theorem retV_sound (h : SR P w0 X D R st a w) {fn : Func} {x : AV} (he : retV P fn st = some x) : ∃ v, (results fn a.tmps).run P w = .ok v w ∧ VR P D R w x v := by
  unfold retV at he
  have key : ∀ {xs : List AV}, resVs P st fn.results.toList = some xs → ∃ vs : List Value, vs.length = xs.length ∧ (∀ k, k < xs.length → VR P D R w (xs.getD k .u) (vs.getD k undef)) ∧
      (results fn a.tmps).run P w = .ok (if h : vs.toArray.size = 1 then vs.toArray[0] else .tuple vs.toArray) w := by
    intro xs hx
    obtain ⟨vs, i1, i2, i3⟩ := resVs_sound h hx
    refine ⟨vs, i1, i2, ?_⟩
    rw [results_eq]
    simp only [Sem.run_bind]
    rw [Array.mapM_eq_mapM_toList]
    simp only [Sem.run_map]
    rw [i3]
    simp
  split at he
  · rename_i v hv
    cases he
    obtain ⟨vs, i1, i2, i3⟩ := key hv
    match vs, i1 with
    | [u], _ => exact ⟨u, by simpa using i3, by simpa using i2 0 (by simp)⟩
  · rename_i vs' hne hv
    cases he
    obtain ⟨vs, i1, i2, i3⟩ := key hv
    have h1 : ¬ vs.toArray.size = 1 := by
      intro h1
      have : vs'.length = 1 := by rw [← i1]; simpa using h1
      match vs', this with
      | [v1], _ => exact hne v1 rfl
    refine ⟨.tuple vs.toArray, by rw [i3]; simp [h1]; intro h2; exact absurd (by simpa using h2) h1, .tup (by simpa using i1) (fun k hk => ?_)⟩
    have := i2 k hk
    simpa [Array.getD_eq_getD_getElem?, List.getD_eq_getElem?_getD] using this
  · cases he

theorem gt_nums : ∀ (l : List AV) (j t : Nat), gt (nums j l) t = if j ≤ t ∧ t < j + l.length then l.getD (t - j) .u else .u
  | [], j, t => by
    have : ¬ (j ≤ t ∧ t < j) := by omega
    simp [nums, gt, this]
  | v :: l, j, t => by
    simp only [nums, gt_cons, gt_nums l (j + 1) t, List.length_cons]
    by_cases e : t = j
    · subst e; simp
    · simp only [e, if_false]
      by_cases c : j + 1 ≤ t ∧ t < j + 1 + l.length
      · have c2 : j ≤ t ∧ t < j + (l.length + 1) := by omega
        simp only [c, and_self, c2, if_true]
        rw [show t - j = (t - (j + 1)) + 1 by omega, List.getD_cons_succ]
      · have c2 : ¬ (j ≤ t ∧ t < j + (l.length + 1)) := by omega
        simp only [c, c2, if_false]

theorem init_SR {args : List AV} {av : Array Value} {nt : Nat} (hX : ∀ b, X b → b < w.heap.size) (hs : av.size = args.length) (hle : args.length ≤ nt)
    (hv : ∀ k, k < args.length → VR P X none2 w (args.getD k .u) (av.getD k undef)) :
    SR P ⟨w, fun _ => False, w.heap.size, Nat.le_refl _⟩ X X none2 (initSt nt args) { tmps := av ++ Array.replicate (nt - av.size) undef, defers := [] } w := by
  refine ⟨fun t => ?_, by simp [initSt]; omega, fun id e es he => by simp [initSt, gm] at he, fun id b s e => by simp [none2] at e, fun id id' b s s' e => by simp [none2] at e, fun b h => h, hX, ⟨rfl, rfl, rfl, Nat.le_refl _, fun _ _ _ => rfl⟩, ⟨[], rfl, by simp, fun b h => by simp at h⟩⟩
  simp only [initSt, gt_nums, Nat.zero_le, true_and, Nat.zero_add, Nat.sub_zero]
  by_cases h : t < args.length
  · have h2 : t < av.size := by omega
    have := hv t h
    simp only [h, if_true]
    simpa [Array.getD_eq_getD_getElem?, Array.getElem?_append, h2] using this
  · simp only [h, if_false]
    exact .u

/-- At the function's end: the marks are taken off. -/
theorem leaves_ok {fn : Func} {A : Ending → World → Prop} {tmps : Array Value} : ∀ (ds : List Nat) (w : World), ds.Nodup → (∀ b, b ∈ ds → w.heap[b]? = some (.deferred (some []))) →
    (∀ w', (∀ b o u, w.cell? ⟨b, o, none⟩ = some u → w'.cell? ⟨b, o, none⟩ = some u) → w'.heap.size = w.heap.size → w'.os = w.os → w'.tape = w.tape → w'.output = w.output → (∀ b, b ∉ ds → w'.heap[b]? = w.heap[b]?) →
      LeavesIn (FW none) n P fn tmps A [] .returning w') → LeavesInM (FW none) n P fn tmps A (ds.map mark1) .returning w
  | [], w, _, _, h => h w (fun _ _ _ h => h) rfl rfl rfl rfl (fun _ _ => rfl)
  | b :: ds, w, hnd, hb, h => by
    have hb0 := hb b (by simp)
    have hlt := (Array.getElem?_eq_some_iff.1 hb0).1
    simp only [List.nodup_cons] at hnd
    refine ⟨by simp, .inl ⟨b, _, rfl, run_takeDeferred hb0, ?_⟩⟩
    refine leaves_ok ds _ hnd.2 (fun b' hb' => ?_) fun w' h1 h2 h3 h4 h5 h6 => ?_
    · have hne : b' ≠ b := fun e => hnd.1 (by rw [← e]; exact hb')
      rw [World.putObj_heap_other hne]
      exact hb b' (by simp [hb'])
    · refine h w' (fun b' o u hc => h1 b' o u ?_) (by rw [h2]; simp [World.putObj]) h3 h4 h5 (fun b' hb' => ?_)
      · have hne : b' ≠ b := fun e => by subst e; simp [World.cell?, hb0] at hc
        exact (World.cell?_of_block (w := w) (World.putObj_heap_other hne)).trans hc
      · simp only [List.mem_cons, not_or] at hb'
        rw [h6 b' hb'.2, World.putObj_heap_other hb'.1]

/-- **A function.** -/
theorem con_of (hs : SpecOK P S) (hm : P.follows .mixedOrders = true) {f : FuncId} {fn : Func} {c : Code} {args : List AV} {v : AV} (hf : P.funcs[f]? = some fn) (hb : fn.body = some c) (hname : (fn.name == "runtime.NumGoroutine") = false)
    (hL : LOK P S RO L 0 false c []) (he : evF P S RO L fn args = some v) : Con P f args v := by
  refine ⟨⟨fn, hf, hname, by rw [hb]; rfl⟩, fun X w av hX hs' hv => ?_⟩
  simp only [evF, hb] at he
  obtain ⟨hle, he⟩ := cond_some he
  have hle : args.length ≤ fn.ntmps := Nat.le_of_ble_eq_true hle
  refine calls_of_FW (ro := none) (n := 0) (callsIn_of_wp_marks hf hb trivial ?_)
  refine evC_sound hs hm c [] 0 false none 0 hL (fun _ => rfl) (init_SR hX hs' hle hv) (fun _ _ => rfl) (Nat.zero_le _) he fun D' R' e st' a' w' hS hf' _ _ _ ht hK => ?_
  have fin : retK P fn st' = some v → LeavesInM (FW none) 0 P fn a'.tmps (fun e w' => ∃ v', e = .returned v' ∧ VR P X none2 w' v v' ∧ Below w.heap.size w w') a'.defers .returning w' := by
    intro hK
    unfold retK at hK
    cases hr : retV P fn st' with
    | none => rw [hr] at hK; cases hK
    | some v0 =>
      rw [hr] at hK
      obtain ⟨hfree, hK⟩ := cond_some hK
      obtain rfl : v0 = v := by simpa using hK
      obtain ⟨ds, d1, d2, d3⟩ := hS.df
      rw [d1]
      refine leaves_ok ds w' d2 (fun b hb => (d3 b hb).1) fun w'' h1 h2 h3 h4 h5 h6 => ?_
      -- the world behind the marks
      have hS' : SR P ⟨w, fun _ => False, w.heap.size, Nat.le_refl _⟩ X D' R' st' { a' with defers := [] } w'' := by
        have mono : ∀ {x : AV} {u : Value}, VR P D' R' w' x u → VR P D' R' w'' x u := fun hv => hv.mono' (fun _ _ e => e) (fun b o u hd hc => ⟨hd, h1 b o u hc⟩)
        refine ⟨fun t => mono (hS.tmp t), hS.nt, fun id e es he => ?_, hS.own, hS.inj, hS.X, fun b hd => by rw [h2]; exact hS.lt b hd, ?_, ⟨[], rfl, by simp, fun b h => by simp at h⟩⟩
        · obtain ⟨b, cells, ty, g1, g2, g3, g4, g5, g6, g7⟩ := hS.mem id e es he
          refine ⟨b, cells, ty, g1, ?_, g3, g4, g5, g6, fun i j hi hj => ?_⟩
          · rw [h6 b (fun hb => (d3 b hb).2.1 (hS.own id b _ g1).1)]; exact g2
          · obtain ⟨u, q1, q2⟩ := g7 i j hi hj
            exact ⟨u, q1, mono q2⟩
        · refine ⟨h3.trans hS.old.os, h4.trans hS.old.tape, h5.trans hS.old.output, by rw [h2]; exact hS.old.size, fun b hb hY => (h6 b (fun hb' => ?_)).trans (hS.old.block b hb hY)⟩
          have := (d3 b hb').2.2
          simp only at this hb
          omega
      obtain ⟨u, r1, r2⟩ := retV_sound hS' hr
      refine ⟨u, r1, u, rfl, ?_, ⟨hS'.old.os, hS'.old.tape, hS'.old.output, hS'.old.size, fun k hk => hS'.old.block k hk (fun h => h)⟩⟩
      have r3 := (VR.free_any (nb := 0) (R' := none2) (fun _ h => absurd h (by omega)) r2).1 hfree
      exact r3.mono' (fun _ _ e => e) (fun b o z hd hc => ⟨fun hx => hd (hS'.X b hx), hc⟩)
  cases e with
  | nrm => exact fin hK
  | ret => exact fin hK
  | ext id => cases hK
end Go.Ev
