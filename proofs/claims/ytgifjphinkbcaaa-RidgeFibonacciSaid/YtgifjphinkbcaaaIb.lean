/-
  The law RidgeFibonacci of the roofer's ridges answers true whatever byte it is handed; no conditions.
-/
import Derived.Test.YtgifjphinkbcaaaIa
set_option linter.unusedVariables false
set_option maxRecDepth 100000
set_option linter.unusedVariables false
set_option linter.unusedSimpArgs false
namespace Go.Proofs.Ytgifjphinkbcaaa
open Go Go.Ev Go.RowKit
variable {da db : Int} {cs : List (List AV)} {m0 m1 m2 m3 m4 m5 m6 m7 : Int} {l : Nat} {X : Nat → Nat → Prop} {Y : Nat → Prop} {R : Nat → Option (Nat × Nat × Nat)} {pb : Nat} {xs : List (List AV)} {J : (Nat → Prop) → Nat → World → Prop} {Jx : (Nat → Prop) → World → Prop}
/-! ### Values in range -/
def rng (X : List AV) : Prop := ∀ k, IntKind.i64.min ≤ fI X k ∧ fI X k ≤ IntKind.i64.max
theorem wrap_rng (x : Int) : IntKind.i64.min ≤ IntKind.i64.wrap x ∧ IntKind.i64.wrap x ≤ IntKind.i64.max := by
  simp only [IntKind.wrap, IntKind.signed, IntKind.bits, IntKind.min, IntKind.max]
  simp
  omega
theorem rng_set {X : List AV} (h : rng X) (j : Nat) {v : Int} (hv : IntKind.i64.min ≤ v ∧ v ≤ IntKind.i64.max) : rng (setCs X j [.i .i64 v]) := by
  intro k
  have e : fI (setCs X j [.i .i64 v]) k = v ∨ fI (setCs X j [.i .i64 v]) k = fI X k ∨ fI (setCs X j [.i .i64 v]) k = 0 := by
    show toI ((X.set j (.i .i64 v)).getD k .u) = v ∨ toI ((X.set j (.i .i64 v)).getD k .u) = toI (X.getD k .u) ∨ toI ((X.set j (.i .i64 v)).getD k .u) = 0
    simp only [List.getD_eq_getElem?_getD, List.getElem?_set]
    split
    · split
      · exact .inl rfl
      · exact .inr (.inr rfl)
    · exact .inr (.inl rfl)
  rcases e with e | e | e <;> rw [e]
  · exact hv
  · exact h k
  · decide
theorem plain_of_rng {X : List AV} (k : rng X) : plainL (enc8 X) = true := by
  simp only [enc8, ag8, plain, plainL, Bool.and_eq_true, decide_eq_true_eq, and_true]
  exact ⟨k 0, k 1, k 2, k 3, k 4, k 5, k 6, k 7⟩
theorem PT.plain {ms : List AV} {b : Bool} {j : Nat} {room : Int} {p p' : List AV} {lst : List (List AV)} (h : PT db cs ms b j room p lst p') : rng p → (∀ x, x ∈ lst → plainL x = true) ∧ rng p' := by
  induction h with
  | leaf =>
    intro hr
    refine ⟨fun x hx => ?_, hr⟩
    simp only [List.mem_singleton] at hx
    subst hx
    exact plain_of_rng hr
  | node _ _ _ ih =>
    intro hr
    obtain ⟨i1, i2⟩ := ih (rng_set hr _ (by decide))
    exact ⟨i1, rng_set i2 _ (by decide)⟩
  | stop _ =>
    intro hr
    refine ⟨fun x hx => ?_, hr⟩
    cases hx
  | step _ _ _ _ ih1 ih2 =>
    intro hr
    obtain ⟨i1, i2⟩ := ih1 hr
    obtain ⟨i3, i4⟩ := ih2 (rng_set i2 _ (wrap_rng _))
    refine ⟨fun x hx => ?_, i4⟩
    rcases List.mem_append.1 hx with hx | hx
    · exact i1 x hx
    · exact i3 x hx
/-! ### The iterator -/
noncomputable def bd88 : Code := match Try.f88.body with | some c => c | _ => .skip
noncomputable def at88 (p : List Bool) : Code := match locate bd88 p with | some c => c | _ => .skip
noncomputable def y0 : Code := at88 [false]
noncomputable def y1 : Code := at88 [true, false]
noncomputable def y2 : Code := at88 [true, true, false]
noncomputable def y3 : Code := at88 [true, true, true, false]
noncomputable def y4 : Code := at88 [true, true, true, true]
noncomputable def opsY : Array Oper := match y4 with | .region _ o _ => o | _ => #[]
theorem bd88_eq : bd88 = .seq y0 (.seq y1 (.seq y2 (.seq y3 y4))) := by kernel_rfl
theorem y4_eq : y4 = .region 4 opsY false := by kernel_rfl
theorem szY : opsY.size = 7 := by kernel_rfl
noncomputable def oY : Oper := (opsY[6]?).getD default
theorem oY_at : opsY[6]? = some oY := by kernel_rfl
theorem oY_op : oY.op = .call { callee := .value (.tmp 7), args := #[.const (.int .i64 0), .tmp 12], argTypes := #[3, 3] } := by kernel_rfl
theorem oY_g : oY.guard = none := by kernel_rfl
theorem body88 : Try.f88.body = some bd88 := by kernel_rfl
theorem res88 : Try.f88.results = #[] := by kernel_rfl
noncomputable def ro88 (t : Nat) : Bool := cond (Nat.beq t 4) false (ro 88 t)
noncomputable def fnY (da db : Int) (cs : List (List AV)) (m0 m1 m2 m3 m4 m5 m6 m7 : Int) (l : Nat) : AV := .fn 89 [rpR da db cs, rpY l, .p 1 0 0, rpM m0 m1 m2 m3 m4 m5 m6 m7, .p 2 0 0]
def zero8 : List AV := [.i .i64 0, .i .i64 0, .i .i64 0, .i .i64 0, .i .i64 0, .i .i64 0, .i .i64 0, .i .i64 0]
/-- All up to the call. -/
noncomputable def upY (st : St) : Option (AV × AV × Blk × Blk) := evC Try.prog S0 ro88 (fun _ _ => none) y0 [] st fun e s => match e with
  | .nrm => evC Try.prog S0 ro88 (fun _ _ => none) y1 [] s fun e s => match e with
    | .nrm => evC Try.prog S0 ro88 (fun _ _ => none) y2 [] s fun e s => match e with
      | .nrm => evC Try.prog S0 ro88 (fun _ _ => none) y3 [] s fun e s => match e with
        | .nrm => evOpsB Try.prog S0 ro88 opsY s.nx (opsY.toList.take 6) 0 s fun s => some (gt s.t 7, gt s.t 12, gm s.m 1, gm s.m 2)
        | _ => none
      | _ => none
    | _ => none
  | _ => none
theorem upY_eq (da db : Int) (cs : List (List AV)) (m0 m1 m2 m3 m4 m5 m6 m7 : Int) (l : Nat) : upY (initSt 14 [.yl l, rpR da db cs, rpM m0 m1 m2 m3 m4 m5 m6 m7] []) = some (fnY da db cs m0 m1 m2 m3 m4 m5 m6 m7 l, .i .i64 (IntKind.i64.wrap (da + db)), rw0 zero8, .row 125 [[fnY da db cs m0 m1 m2 m3 m4 m5 m6 m7 l]]) := by kernel_rfl
theorem rp_chain {W : World} {fb : Nat} {cv : Array Value} (hc : W.cell? ⟨fb, 0, none⟩ = some (.func (.func 89) #[] cv)) (hs : cv.size = 5) (hX : ∀ o, ¬ XR X R fb o) (h4 : cv.getD 4 undef = .pointer (some ⟨fb, 0, none⟩))
    (h : ∀ k, k < 4 → VR Try.prog (XR X R) R W (([rpR da db cs, rpY l, .p 0 0 0, rpM m0 m1 m2 m3 m4 m5 m6 m7] : List AV).getD k .u) (cv.getD k undef)) :
    ∀ d, VR Try.prog (XR X R) R W (RP da db cs m0 m1 m2 m3 m4 m5 m6 m7 l d) (.pointer (some ⟨fb, 0, none⟩))
  | 0 => .u
  | d + 1 => by
    refine .rp (b := fb) (o := 0) (j := 0) (f := fun _ => .func (.func 89) #[] cv) (fun k hk => hX _) (by simp) ⟨rfl, fun j hj => ?_⟩ (fun k hk => ?_) (fun k hk => ?_)
    · have : j = 0 := by simp at hj; omega
      subst this
      exact .oth
    · have : k = 0 := by simp at hk; omega
      subst this
      exact hc
    · have : k = 0 := by simp at hk; omega
      subst this
      refine .fn hs fun k hk => ?_
      rcases Nat.lt_or_ge k 4 with g | g
      · have := h k g
        rcases k with _ | _ | _ | _ | k
        · exact this
        · exact this
        · exact this
        · exact this
        · omega
      · have : k = 4 := by simp at hk; omega
        subst this
        rw [h4]
        exact rp_chain hc hs hX h4 h d
end Go.Proofs.Ytgifjphinkbcaaa

set_option maxRecDepth 100000
set_option linter.unusedVariables false
set_option linter.unusedSimpArgs false
namespace Go.Proofs.Ytgifjphinkbcaaa
open Go Go.Ev Go.RowKit
variable {da db : Int} {cs : List (List AV)} {m0 m1 m2 m3 m4 m5 m6 m7 : Int}
theorem lokY (c : Code) (h : (match c with | .region _ _ _ => true | _ => false) = true) : LOK Try.prog S0 ro88 (fun _ _ => none) 0 true c [] := by
  split at h
  · trivial
  · cases h
theorem cells104 : Try.prog.cellsOf 104 = 8 := by kernel_rfl
theorem cells125 : Try.prog.cellsOf 125 = 1 := by kernel_rfl
/-- **The iterator over the patterns.** -/
theorem pat_con {lst : List (List AV)} {p' : List AV} (h : PT db cs [AV.i IntKind.i64 m0, AV.i IntKind.i64 m1, AV.i IntKind.i64 m2, AV.i IntKind.i64 m3, AV.i IntKind.i64 m4, AV.i IntKind.i64 m5, AV.i IntKind.i64 m6, AV.i IntKind.i64 m7] false 0 (IntKind.i64.wrap (da + db)) zero8 lst p') :
    SeqCon Try.prog 88 [rpR da db cs, rpM m0 m1 m2 m3 m4 m5 m6 m7] lst := by
  refine ⟨⟨Try.f88, Try.func88, names 88 _ Try.func88, by rw [body88]; rfl⟩, (h.plain fun k => ?_).1, ?_⟩
  · rcases k with _ | _ | _ | _ | _ | _ | _ | _ | k <;> exact (show IntKind.i64.min ≤ (0 : Int) ∧ (0 : Int) ≤ IntKind.i64.max from ⟨by decide, by decide⟩)
  intro X Y n w lb hX hYX hlb hcaps l J Jx hJ hJx hJ0 hyield
  refine callsIn_FW (calls_of_FW (ro := none) (n := 0) (callsIn_of_wp Try.func88 body88 trivial ?_))
  have h0 : SR Try.prog ⟨w, rowsOf none2, fun id => id < 0, w.heap.size, Nat.le_refl _⟩ (XR X none2) (XR X none2) none2 (initSt 14 [.yl l, rpR da db cs, rpM m0 m1 m2 m3 m4 m5 m6 m7] []) { tmps := (#[Value.func (.yield l) #[] #[]] ++ lb) ++ Array.replicate (14 - (#[Value.func (.yield l) #[] #[]] ++ lb).size) undef, defers := [] } w :=
    init_SR (rows := []) hX (fun _ _ => rfl) (fun _ _ _ e => by cases e) (fun _ _ _ _ _ e => by cases e) rfl (fun id hid => by simp at hid) (by simp at hlb; simp [hlb]) (show 3 ≤ 14 by decide) (fun k hk => by
      cases k with
      | zero =>
        have e : (#[Value.func (.yield l) #[] #[]] ++ lb).getD 0 undef = .func (.yield l) #[] #[] := by simp [Array.getD_eq_getD_getElem?, Array.getElem?_append]
        rw [e]
        exact .yl
      | succ k =>
        have := (hcaps k (by simp at hk ⊢; omega)).to_xr_none
        simpa [Array.getD_eq_getD_getElem?, Array.getElem?_append] using this)
  rw [bd88_eq]
  have hW := upY_eq da db cs m0 m1 m2 m3 m4 m5 m6 m7 l
  unfold upY at hW
  refine wpIn_seq (evC_sound S0_ok mixed y0 [] 0 true none 0 (lokY y0 (by kernel_rfl)) (fun h => by cases h) h0 (fun _ _ => rfl) (Nat.zero_le _) hW fun D1 R1 e1 s1 a1 w1 hS1 hF1 _ hd1 _ ht1 hK1 => ?_)
  cases e1 with
  | ext k => cases hK1
  | ret => cases hK1
  | nrm =>
  refine wpIn_seq (evC_sound S0_ok mixed y1 [] 0 true none 0 (lokY y1 (by kernel_rfl)) (fun h => by cases h) hS1 hF1 (Nat.zero_le _) hK1 fun D2 R2 e2 s2 a2 w2 hS2 hF2 _ hd2 _ ht2 hK2 => ?_)
  cases e2 with
  | ext k => cases hK2
  | ret => cases hK2
  | nrm =>
  refine wpIn_seq (evC_sound S0_ok mixed y2 [] 0 true none 0 (lokY y2 (by kernel_rfl)) (fun h => by cases h) hS2 hF2 (Nat.zero_le _) hK2 fun D3 R3 e3 s3 a3 w3 hS3 hF3 _ hd3 _ ht3 hK3 => ?_)
  cases e3 with
  | ext k => cases hK3
  | ret => cases hK3
  | nrm =>
  refine wpIn_seq (evC_sound S0_ok mixed y3 [] 0 true none 0 (lokY y3 (by kernel_rfl)) (fun h => by cases h) hS3 hF3 (Nat.zero_le _) hK3 fun D4 R4 e4 s4 a4 w4 hS4 hF4 _ hd4 _ ht4 hK4 => ?_)
  cases e4 with
  | ext k => cases hK4
  | ret => cases hK4
  | nrm =>
  show y4.wpIn (FW none) 0 Try.prog _ a4 w4
  rw [y4_eq]
  refine wpIn_region ?_
  rw [szY, show List.range 7 = List.range' 0 6 ++ [6] by decide]
  have hl : (opsY.toList.take 6).length = 6 := by simp [szY]
  obtain ⟨rest, hrest⟩ : ∃ rest : List Nat, rest = [6] := ⟨_, rfl⟩
  rw [← hrest, ← hl]
  refine evOpsB_cut S0_ok (opsY.toList.take 6) 0 (fun i hi => ?_) hS4 (by simpa using hF4) hK4 fun D R' s a W hS hF hRR hd _ hnt hK => ?_
  · rw [hl] at hi
    simp [List.getElem?_take, hi]
  simp only [Option.some.injEq, Prod.mk.injEq] at hK
  obtain ⟨k7, k12, kr1, kr2⟩ := hK
  have dfa : a.defers = [] := hd.trans ((hd4 rfl).trans ((hd3 rfl).trans ((hd2 rfl).trans (hd1 rfl))))
  -- where the rows lie
  have r1 := hS.mem 1
  rw [kr1] at r1
  have r2 := hS.mem 2
  rw [kr2] at r2
  obtain ⟨pb, c1, ty1, g1, hb1, _⟩ := r1 (by simp)
  obtain ⟨fb, c2, ty2, g2, hb2, _, _, _, _, hv2⟩ := r2 (by simp)
  rw [cells104] at g1
  rw [cells125] at g2
  have o1 := hS.own 1 pb _ g1 (by simp)
  have o2 := hS.own 2 fb _ g2 (by simp)
  have p1 : w.heap.size ≤ pb := by
    rcases o1.1 with g | ⟨_, g⟩
    · exact g
    · simp only at g; omega
  have p2 : w.heap.size ≤ fb := by
    rcases o2.1 with g | ⟨_, g⟩
    · exact g
    · simp only at g; omega
  have hne : fb ≠ pb := fun e => by
    subst e
    have := hS.inj 1 2 fb _ _ g1 g2 (by simp) (by simp) (by rw [kr1]; rfl) (by rw [kr2]; rfl)
    omega
  obtain ⟨R3', hR3⟩ : ∃ R3' : Nat → Option (Nat × Nat × Nat), R3' = fun id => if id = 0 then some (pb, 8, 0) else none := ⟨_, rfl⟩
  have E : Env l X Y R3' pb lst J Jx := ⟨by rw [hR3]; rfl, fun id hid => by rw [hR3]; exact if_neg (by omega), hYX, fun o hx => by have := hX _ _ hx; omega, hJ, hyield⟩
  have hsub : ∀ b o, XR X R3' b o → D b o := by
    rintro b o (hx | ⟨id, s, e⟩)
    · exact hS.X b o (.inl hx)
    · rw [hR3] at e
      simp only at e
      split at e
      · cases e
        exact hS.dom 1 pb _ o g1 (by rw [kr1]; trivial)
      · cases e
  have toD : ∀ {x : AV} {v : Value}, VR Try.prog D R3' W x v → VR Try.prog (XR X R3') R3' W x v := fun hv => hv.mono' (fun _ _ e => e) fun b o u hd hc => ⟨fun hx => hd (hsub b o hx), hc⟩
  have toX : ∀ {x : AV} {v : Value}, VR Try.prog D R' W x v → free Try.prog 0 x = true → VR Try.prog (XR X R3') R3' W x v := fun hv hf => toD (hv.free_any (nb := 0) (fun id y h => by omega) hf)
  have A : At l X R3' pb zero8 W := by
    refine ⟨fun b o hx => Nat.lt_of_lt_of_le (hX b o hx) hS.old.size, o1.2, ?_⟩
    exact (RowOK.free (nb := 0) (R' := R3') (id := 1) (id' := 0) (fun id y h => by omega) (fun y e => by rw [g1] at e; cases e; exact E.R0) r1 (by kernel_rfl)).mono rfl (fun _ _ _ _ => rfl) fun _ _ => toD
  -- the function's value
  have cap : ∀ v, VR Try.prog D R' W (fnY da db cs m0 m1 m2 m3 m4 m5 m6 m7 l) v → ∃ cv, v = .func (.func 89) #[] cv ∧ cv.size = 5 ∧ cv.getD 4 undef = .pointer (some ⟨fb, 0, none⟩) ∧
      ∀ k, k < 4 → VR Try.prog (XR X R3') R3' W (([rpR da db cs, rpY l, .p 0 0 0, rpM m0 m1 m2 m3 m4 m5 m6 m7] : List AV).getD k .u) (cv.getD k undef) := by
    intro v hv
    unfold fnY at hv
    cases hv with
    | @fn _ _ cv q1 q2 =>
      have t0 := q2 0 (by simp)
      have t1 := q2 1 (by simp)
      have t2 := q2 2 (by simp)
      have t3 := q2 3 (by simp)
      have t4 := q2 4 (by simp)
      simp only [List.getD_cons_zero, List.getD_cons_succ] at t0 t1 t2 t3 t4
      refine ⟨cv, rfl, q1, ?_, fun k hk => ?_⟩
      · generalize cv.getD 4 undef = u at t4
        cases t4 with
        | @p _ _ _ b sz hR =>
          rw [g2] at hR
          cases hR
          rfl
      · rcases k with _ | _ | _ | _ | k
        · exact toX t0 (by kernel_rfl)
        · exact toX t1 (by kernel_rfl)
        · show VR _ _ _ _ (.p 0 0 0) (cv.getD 2 undef)
          generalize cv.getD 2 undef = u at t2
          cases t2 with
          | @p _ _ _ b sz hR =>
            rw [g1] at hR
            cases hR
            exact .p E.R0
        · exact toX t3 (by kernel_rfl)
        · omega
  -- the box that holds it
  obtain ⟨vb, hvb, hvv⟩ := hv2 0 0 (by simp) (by rw [cells125]; decide)
  obtain ⟨cvb, rfl, b1, b2, b3⟩ := cap vb hvv
  have hcell : W.cell? ⟨fb, 0, none⟩ = some (.func (.func 89) #[] cvb) := by
    simp only [cells125, Nat.mul_one, Nat.add_zero] at hvb
    simp only [World.cell?, hb2]
    simpa using hvb
  have chain := rp_chain (da := da) (db := db) (cs := cs) (m0 := m0) (m1 := m1) (m2 := m2) (m3 := m3) (m4 := m4) (m5 := m5) (m6 := m6) (m7 := m7) (l := l) hcell b1 (fun o hx => by
    rcases hx with hx | ⟨id, s, e⟩
    · have := hX _ _ hx; omega
    · rw [hR3] at e
      simp only at e
      split at e
      · cases e; exact hne rfl
      · cases e) b2 b3
  have t7 := hS.tmp 7
  rw [k7] at t7
  obtain ⟨cv, hy, d1, d2, d3⟩ := cap _ t7
  have t12 := hS.tmp 12
  rw [k12] at t12
  rw [hrest]
  simp only [wpOpsIn, oY_at]
  rw [if_pos (by simp [Region.wanted, oY_g])]
  obtain ⟨fn, f1, f2, f3⟩ := tab89
  have hrec := rec89 (da := da) E h
  have hJ1 := hJ _ _ _ _ hJ0 (show BelowZ (fun _ => False) w W from ⟨hS.old.os, hS.old.tape, hS.old.output, hS.old.size, fun k hk _ => hS.old.block k hk (by rintro ⟨_, _, e⟩; cases e)⟩)
  refine enter_op oY_op rfl hy f1 f2 f3 (hrec W _ 0 _ A (by simp [d1]) (fun k hk => ?_) (.inr ⟨p1, o1.2⟩) hJ1 (fun q x hq => by simpa using hq)) fun e5 W5 he => ?_
  · have em : Array.map a.eval #[Operand.const (.int .i64 0), Operand.tmp 12] = #[.int .i64 0, a.tmps.getD 12 undef] := by simp [Act.eval]
    dsimp only
    rw [em]
    rcases k with _ | _ | k
    · rw [app2_0]; exact .i (by decide) (by decide)
    · rw [show 0 + 1 = 1 from rfl, app2_1]; exact toX t12 (by kernel_rfl)
    · rw [show k + 1 + 1 = k + 2 from rfl, app2_2]
      rcases Nat.lt_or_ge k 4 with g | g
      · have := d3 k g
        rcases k with _ | _ | _ | _ | k
        · exact this
        · exact this
        · exact this
        · exact this
        · omega
      · have : k = 4 := by omega
        subst this
        rw [d2]
        exact chain _
  · have fin : ∀ v : Value, (∃ v', Ending.returned v = .returned v') ∧ ((∃ Z, J Z lst.length W5) ∨ ∃ Z, Jx Z W5) → ∃ v', Ending.returned v = .returned v' ∧ wpOpsIn (FW none) 0 Try.prog opsY (bodyPost Try.prog Try.f88 fun e W' => (∃ v, e = .returned v) ∧ ((∃ Z, J Z lst.length W') ∨ ∃ Z, Jx Z W')) [] (a.put oY.dst v') W5 := by
      intro v hv
      refine ⟨v, rfl, (put_defers _ _ _).trans dfa, ?_⟩
      have hr : ∃ u, (results Try.f88 (a.put oY.dst v).tmps).run Try.prog W5 = .ok u W5 := by simp [results, res88]
      obtain ⟨u, hu⟩ := hr
      exact ⟨u, hu, ⟨u, rfl⟩, hv.2⟩
    rcases he with ⟨rfl, Z', _, hj, _⟩ | ⟨rfl, Z', hj⟩
    · exact fin _ ⟨⟨_, rfl⟩, .inl ⟨Z', by simpa using hj⟩⟩
    · exact fin _ ⟨⟨_, rfl⟩, .inr ⟨Z', hj⟩⟩
end Go.Proofs.Ytgifjphinkbcaaa

set_option maxRecDepth 100000
set_option linter.unusedVariables false
namespace Go.Proofs.Ytgifjphinkbcaaa
open Go Go.Ev
/-- Are there patterns? -/
def Pats (da db : Int) (cs : List (List AV)) (ms : List AV) (Xs : List (List AV)) : Prop := ∃ p', PT db cs ms false 0 (IntKind.i64.wrap (da + db)) zero8 (Xs.map enc8) p'
open Classical in
noncomputable def okP (da db : Int) (cs : List (List AV)) (m0 m1 m2 m3 m4 m5 m6 m7 : Int) : Bool := decide (∃ Xs, Pats da db cs [.i .i64 m0, .i .i64 m1, .i .i64 m2, .i .i64 m3, .i .i64 m4, .i .i64 m5, .i .i64 m6, .i .i64 m7] Xs)
open Classical in
noncomputable def patX (da db : Int) (cs : List (List AV)) (m0 m1 m2 m3 m4 m5 m6 m7 : Int) : List (List AV) := if h : ∃ Xs, Pats da db cs [.i .i64 m0, .i .i64 m1, .i .i64 m2, .i .i64 m3, .i .i64 m4, .i .i64 m5, .i .i64 m6, .i .i64 m7] Xs then h.choose else []
theorem patX_ok {da db : Int} {cs : List (List AV)} {m0 m1 m2 m3 m4 m5 m6 m7 : Int} (h : okP da db cs m0 m1 m2 m3 m4 m5 m6 m7 = true) : Pats da db cs [.i .i64 m0, .i .i64 m1, .i .i64 m2, .i .i64 m3, .i .i64 m4, .i .i64 m5, .i .i64 m6, .i .i64 m7] (patX da db cs m0 m1 m2 m3 m4 m5 m6 m7) := by
  unfold okP at h
  simp only [decide_eq_true_eq] at h
  unfold patX
  rw [dif_pos h]
  exact h.choose_spec
theorem patX_con {da db : Int} {cs : List (List AV)} {m0 m1 m2 m3 m4 m5 m6 m7 : Int} (h : okP da db cs m0 m1 m2 m3 m4 m5 m6 m7 = true) :
    SeqCon Try.prog 88 [.rp [.int .i64, .int .i64, .sl 64] [.i .i64 da, .i .i64 db, .rs 64 cs] 0, .rp [.int .i64, .int .i64, .int .i64, .int .i64, .int .i64, .int .i64, .int .i64, .int .i64] [.i .i64 m0, .i .i64 m1, .i .i64 m2, .i .i64 m3, .i .i64 m4, .i .i64 m5, .i .i64 m6, .i .i64 m7] 0] ((patX da db cs m0 m1 m2 m3 m4 m5 m6 m7).map enc8) := by
  obtain ⟨p', h⟩ := patX_ok h
  exact pat_con h
theorem enc8_len {Xs : List (List AV)} {x : List AV} (h : x ∈ Xs.map enc8) : x.length = 1 := by
  obtain ⟨y, _, rfl⟩ := List.mem_map.1 h
  rfl
end Go.Proofs.Ytgifjphinkbcaaa

set_option maxRecDepth 1000000
set_option maxHeartbeats 0
set_option linter.unusedVariables false
namespace Go.Proofs.Ytgifjphinkbcaaa
open Go Go.Ev
/-- The patterns, reckoned. -/
def patF (db : Int) (cs : List (List AV)) (ms : List AV) : Nat → Bool → Nat → Int → List AV → Option (List (List AV) × List AV)
  | 0, _, _, _, _ => none
  | n + 1, false, j, room, X => cond (Nat.beq j cs.length) (some ([enc8 X], X)) (cond (Nat.blt j cs.length && Nat.blt j 8) (match patF db cs ms n true j room (setCs X j [.i .i64 0]) with
    | some (l, X') => some (l, setCs X' j [.i .i64 0])
    | none => none) none)
  | n + 1, true, j, room, X => cond (decide (fI X j ≤ fI ms j) && decide (room ≥ 0)) (match patF db cs ms n false (j + 1) room X with
    | some (l1, X1) => match patF db cs ms n true j (IntKind.i64.wrap (room - wid db cs j)) (setCs X1 j [.i .i64 (IntKind.i64.wrap (fI X1 j + 1))]) with
      | some (l2, X2) => some (l1 ++ l2, X2)
      | none => none
    | none => none) (some ([], X))
theorem patF_ok {db : Int} {cs : List (List AV)} {ms : List AV} : ∀ {n : Nat} {b : Bool} {j : Nat} {room : Int} {X X' : List AV} {l : List (List AV)}, patF db cs ms n b j room X = some (l, X') → PT db cs ms b j room X l X'
  | 0, _, _, _, _, _, _, h => by cases h
  | n + 1, false, j, room, X, X', l, h => by
    simp only [patF] at h
    cases hb : Nat.beq j cs.length with
    | true =>
      rw [hb] at h
      simp only [cond_true, Option.some.injEq, Prod.mk.injEq] at h
      obtain ⟨rfl, rfl⟩ := h
      rw [Nat.eq_of_beq_eq_true hb]
      exact .leaf
    | false =>
      rw [hb] at h
      simp only [cond_false] at h
      obtain ⟨hc, h⟩ := cond_some h
      simp only [Bool.and_eq_true, Nat.blt_eq] at hc
      split at h
      · rename_i l1 X1 h1
        simp only [Option.some.injEq, Prod.mk.injEq] at h
        obtain ⟨rfl, rfl⟩ := h
        exact .node hc.1 hc.2 (patF_ok h1)
      · cases h
  | n + 1, true, j, room, X, X', l, h => by
    simp only [patF] at h
    cases hb : (decide (fI X j ≤ fI ms j) && decide (room ≥ 0)) with
    | false =>
      rw [hb] at h
      simp only [cond_false, Option.some.injEq, Prod.mk.injEq] at h
      obtain ⟨rfl, rfl⟩ := h
      exact .stop hb
    | true =>
      rw [hb] at h
      simp only [cond_true] at h
      simp only [Bool.and_eq_true, decide_eq_true_eq] at hb
      split at h
      · rename_i l1 X1 h1
        split at h
        · rename_i l2 X2 h2
          simp only [Option.some.injEq, Prod.mk.injEq] at h
          obtain ⟨rfl, rfl⟩ := h
          exact .step hb.1 hb.2 (patF_ok h1) (patF_ok h2)
        · cases h
      · cases h
def its : ISpec := fun g caps => cond (Nat.beq g 88) (match caps with
  | [.rp [.int .i64, .int .i64, .sl 64] [.i .i64 da, .i .i64 db, .rs 64 cs] 0, .rp [.int .i64, .int .i64, .int .i64, .int .i64, .int .i64, .int .i64, .int .i64, .int .i64] [.i .i64 m0, .i .i64 m1, .i .i64 m2, .i .i64 m3, .i .i64 m4, .i .i64 m5, .i .i64 m6, .i .i64 m7] 0] =>
    match patF db cs [.i .i64 m0, .i .i64 m1, .i .i64 m2, .i .i64 m3, .i .i64 m4, .i .i64 m5, .i .i64 m6, .i .i64 m7] 100 false 0 (IntKind.i64.wrap (da + db)) zero8 with
    | some (l, _) => some l
    | none => none
  | _ => none) none
theorem its_ok : IOK Try.prog its := by
  intro g caps xs h
  unfold its at h
  obtain ⟨hg, h2⟩ := cond_some h
  clear h
  have hg := Nat.eq_of_beq_eq_true hg
  subst hg
  split at h2
  · split at h2
    · rename_i l X' h3
      cases h2
      exact pat_con (patF_ok h3)
    · cases h2
  · cases h2
noncomputable def SL : Ev.Spec := runS Try.prog its ro (fun _ _ _ => none) 300 5 12
theorem SL_ok : SpecOK Try.prog SL := runS_ok its_ok mixed names (fun _ _ _ _ _ _ h => by cases h) 12
theorem lives_eq : SL 19 [] [] = some (true, .b true, []) := by kernel_rfl
theorem lives_con : Con Try.prog 19 [] [] (.b true) [] := SL_ok _ _ _ _ _ _ lives_eq rfl
end Go.Proofs.Ytgifjphinkbcaaa

set_option linter.unusedVariables false
namespace Go.Proofs.Ytgifjphinkbcaaa
open Go Go.Ev
noncomputable def e19 (args : List AV) (rows : List Blk) : Option (Bool × AV × List Blk) := match args, rows with
  | [], [] => some (true, .b true, [])
  | _, _ => none
theorem e19_ok (args : List AV) (rows : List Blk) (pre : Bool) (v : AV) (rows' : List Blk) (h : e19 args rows = some (pre, v, rows')) (hp : pre = true) : Con Try.prog 19 args rows v rows' := by
  unfold e19 at h
  split at h
  · cases h; exact lives_con
  · cases h
-- SPEC 19
end Go.Proofs.Ytgifjphinkbcaaa
