/-
  The law WearRates returns true for every climate and all numbers, and leaves its arguments as they were. No conditions.
-/
import Derived.Test.YteclfchlejocmaaEvX
set_option linter.unusedVariables false
set_option linter.unusedSimpArgs false
namespace Go.Ev
open Go Go.RowKit

variable {P : Program} {S : Spec} {RO : Nat → Bool} {X D : Nat → Prop} {R : Nat → Option (Nat × Nat)} {st : St} {a : Act} {w : World} {n : Nat} {Q : Exit → Act → World → Prop}

theorem VR_plain_all : (∀ x : AV, plain x = true → ∀ v, VR P D R w x v → v = toV x) ∧ (∀ l : List AV, plainL l = true → ∀ vs : List Value, vs.length = l.length → (∀ k, k < l.length → VR P D R w (l.getD k .u) (vs.getD k undef)) → vs = toVL l) := by
  have key : ∀ (n : Nat), (∀ x : AV, SizeOf.sizeOf x < n → plain x = true → ∀ v, VR P D R w x v → v = toV x) ∧ (∀ l : List AV, SizeOf.sizeOf l < n → plainL l = true → ∀ vs : List Value, vs.length = l.length → (∀ k, k < l.length → VR P D R w (l.getD k .u) (vs.getD k undef)) → vs = toVL l) := by
    intro n
    induction n with
    | zero => exact ⟨fun x h => by omega, fun l h => by omega⟩
    | succ n ih =>
      refine ⟨fun x hs hp v hv => ?_, fun l hs hp vs hl hv => ?_⟩
      · cases x <;> simp only [plain] at hp <;> try (cases hp; done)
        · exact hv.bool_inv
        · exact hv.int_inv.1
        · exact hv.str_inv.1
        · rename_i cs
          obtain ⟨cv, rfl, h1, h2⟩ := hv.agg_inv
          simp only [toV]
          have := ih.2 cs (by simp at hs; omega) hp cv.toList (by simpa using h1) (fun k hk => by
            have := h2 k hk
            simpa [Array.getD_eq_getD_getElem?, List.getD_eq_getElem?_getD] using this)
          rw [← this]
      · cases l with
        | nil => simpa [toVL] using hl
        | cons a r =>
          cases vs with
          | nil => simp at hl
          | cons v vs =>
            simp only [plainL, Bool.and_eq_true] at hp
            simp only [toVL]
            rw [ih.1 a (by simp at hs; omega) hp.1 v (by simpa using hv 0 (by simp)), ih.2 r (by simp at hs; omega) hp.2 vs (by simpa using hl) (fun k hk => by simpa using hv (k + 1) (by simpa using hk))]
  exact ⟨fun x => (key (SizeOf.sizeOf x + 1)).1 x (by omega), fun l => (key (SizeOf.sizeOf l + 1)).2 l (by omega)⟩

/-- A call of yield. -/
theorem yield_op {o : Oper} {c : Call} {l : Nat} {x : Operand} {xv : AV} {next : Act → World → Prop} {Rr : Ending → World → Prop} (ho : o.op = .call c) {y : Operand} (hc : c.callee = .value y) (ha : c.args = #[x])
    (hy : a.eval y = .func (.yield l) #[] #[]) (hx : VR P D R w xv (a.eval x)) (hp : plain xv = true) (h : ∀ m, YieldAt (FW none) m P l (encV [xv]) w Rr)
    (hn : ∀ e w', Rr e w' → ∃ v, e = .returned v ∧ next (a.put o.dst v) w') : o.wpIn (FW none) n P a w next Q := by
  have hd : ∀ c, o.op ≠ .defer c := by intro c' hc'; rw [ho] at hc'; cases hc'
  refine ⟨fun _ _ => trivial, ?_⟩
  rw [Oper.semAt_eq _ _ _ hd]
  obtain ⟨fn, tmps, assign, body, h1, h2⟩ := h (n - 1)
  have he : a.eval x = toV xv := VR_plain_all.1 xv hp _ hx
  have hrun : (execOp a.eval o).run P w = .ok (.round l fn tmps assign body) w := by
    have hres : (resolve a.eval c o.type).run P w = .ok { target := .fn (.yield l) #[], args := #[] ++ c.args.map a.eval } w := by
      simp [resolve, hc, Deferred.ofValue, hy]
    simp only [execOp, ho, Sem.run_bind, hres, Result.andThen_ok, invoke]
    have : (#[] ++ c.args.map a.eval) = encV [xv] := by simp [ha, encV, toVL, he]
    rw [this]
    exact h1
  rw [hrun]
  refine ⟨fun hh => by simp [FW, Fence.wide] at hh, h2.mono fun e w' he' => ?_⟩
  obtain ⟨v, rfl, hv⟩ := hn e w' he'
  exact hv

/-- What is known of a state behind a round. -/
theorem kp_SR {b : Base} {Y D' : Nat → Prop} {R' : Nat → Option (Nat × Nat)} {st' s : St} {W W' : World} {keep : List Nat} (h : SR P b Y D' R' st' a W) (hn : norm P keep 0 st' = some s) (hk : KpOf Y W W') (hd : a.defers = []) :
    SR P ⟨W', fun _ => False, 0, Nat.zero_le _⟩ Y Y none2 s a W' := by
  obtain ⟨h1, _, h3, h4⟩ := norm_sound h hn
  have h2 := h1.shrink
  have hm : ∀ id, gm s.m id = .dead := by
    unfold norm at hn
    obtain ⟨_, hn⟩ := cond_some hn
    simp only [Option.some.injEq] at hn
    subst hn
    intro id
    rfl
  refine ⟨fun t => ?_, h2.nt, fun id e es he => (by rw [hm] at he; cases he), fun id b s e => by simp [none2] at e, fun id id' b s s' e => by simp [none2] at e, fun b hb => hb, fun b hb => Nat.lt_of_lt_of_le (h.lt b (h.X b hb)) hk.size, ⟨rfl, rfl, rfl, Nat.le_refl _, fun _ _ _ => rfl⟩, ⟨[], hd, by simp, fun b hb => by simp at hb⟩⟩
  refine (h2.tmp t).mono' (fun id x e => by simp at e) fun b o u hd hc => ?_
  have hb : ¬ Y b := fun hy => hd (.inl hy)
  obtain ⟨ob, h5, h6⟩ := cells_of_cell hc
  exact ⟨hb, (World.cell?_of_block ((hk.same b ob h5 h6 hb).trans h5.symm)).trans hc⟩

/-- How an iterator over a slice is walked, up to its call of yield: none: it is at its end. -/
def sliceT (P : Program) (S : Spec) (RO : Nat → Bool) (L : LSpec) (r1 r2 : Code) (t8 : Nat) (ops : Array Oper) (c yv xv : Nat) (keep : List Nat) (st : St) : Option (Option (AV × AV × St)) :=
  evC P S RO L r1 [] st fun e s => match e with
    | .nrm => evC P S RO L (.cond (.tmp t8) .skip (.exit 0)) [] s fun e s => match e with
      | .nrm => evC P S RO L r2 [] s fun e s => match e with
        | .nrm => evOps P S RO ops s.nx (chkOf ops true s.nx) (ops.toList.take c) 0 s fun s => match norm P keep 0 s with
          | some s' => some (some (gt s.t yv, gt s.t xv, s'))
          | none => none
        | _ => none
      | .ext k => cond (Nat.beq k 0) (some none) none
      | _ => none
    | _ => none
def afterR (P : Program) (S : Spec) (RO : Nat → Bool) (L : LSpec) (r : Code) (keep : List Nat) (st : St) : Option St :=
  evC P S RO L r [] st fun e s => match e with
    | .nrm => norm P keep 0 s
    | _ => none

theorem iter_slice (hs : SpecOK P S) (hm : P.follows .mixedOrders = true) {L : LSpec} {f : FuncId} {fn : Func} {r0 r1 r2 r4 : Code} {id t8 z yd yv xv c : Nat} {ops : Array Oper} {keep : List Nat} {o1 o2 : Oper} {cl : Call} {ty : TypeId} {caps : List AV} {xs : List AV} {stI : Nat → Nat → St}
    (hf : P.funcs[f]? = some fn) (hname : (fn.name == "runtime.NumGoroutine") = false) (hres : fn.results = #[])
    (hb : fn.body = some (.seq r0 (.block 0 (.loop (.seq r1 (.seq (.cond (.tmp t8) .skip (.exit 0)) (.seq (.block 1 (.seq r2 (.seq (.region id ops true) (.cond (.tmp z) .ret .skip)))) r4)))))))
    (hL : ∀ lo p, LOK P S RO L lo true r0 p ∧ LOK P S RO L lo true r1 p ∧ LOK P S RO L lo true r2 p ∧ LOK P S RO L lo true r4 p)
    (hdr : drawOK ops = true) (hsz : ops.size = c + 2) (hcut : ∀ j o, ops[j]? = some o → c ≤ j → ∀ i, i < j → bef ops j i)
    (ho1 : ops[c]? = some o1) (hg1 : o1.guard = none) (hp1 : o1.op = .call cl) (hc1 : cl.callee = .value (.tmp yv)) (ha1 : cl.args = #[.tmp xv]) (hdo1 : o1.dst = some yd)
    (ho2 : ops[c + 1]? = some o2) (hg2 : o2.guard = none) (hp2 : o2.op = .unOp .not ty (.tmp yd)) (hdo2 : o2.dst = some z) (hyz : yd < fn.ntmps ∧ z < fn.ntmps)
    (hplain : plainL xs = true) (hargs : caps.length + 1 ≤ fn.ntmps)
    (h0 : ∀ l, afterR P S RO L r0 keep (initSt fn.ntmps (.yl l :: caps)) = some (stI l 0))
    (h1 : ∀ l i, i < xs.length → sliceT P S RO L r1 r2 t8 ops c yv xv keep (stI l i) = some (some (.yl l, xs.getD i .u, stI l i)))
    (h1n : ∀ l, sliceT P S RO L r1 r2 t8 ops c yv xv keep (stI l xs.length) = some none)
    (h4 : ∀ l i, i < xs.length → afterR P S RO L r4 keep (stI l i) = some (stI l (i + 1)))
    (hnx : ∀ l i, (stI l i).nx = 0 ∧ (stI l i).nt = fn.ntmps ∧ gt (stI l i).t yd = .u ∧ gt (stI l i).t z = .u) :
    SeqCon P f caps (xs.map fun x => [x]) := by
  refine ⟨⟨fn, hf, hname, by rw [hb]; rfl⟩, fun x hx => ?_, ?_⟩
  · obtain ⟨y, hy, rfl⟩ := List.mem_map.1 hx
    have : ∀ (l : List AV), plainL l = true → y ∈ l → plain y = true := by
      intro l
      induction l with
      | nil => intro _ h; cases h
      | cons a l ih =>
        intro h hy
        simp only [plainL, Bool.and_eq_true] at h
        rcases List.mem_cons.1 hy with rfl | hy
        · exact h.1
        · exact ih h.2 hy
    simp [plainL, this xs hplain hy]
  intro Y n w lb hY hlb hcaps l J Jx hJ hJx hJ0 hyield
  have pl : ∀ i, i < xs.length → plain (xs.getD i .u) = true := by
    have : ∀ (l : List AV) (i : Nat), plainL l = true → i < l.length → plain (l.getD i .u) = true := by
      intro l
      induction l with
      | nil => intro i _ h; simp at h
      | cons a l ih =>
        intro i h hi
        simp only [plainL, Bool.and_eq_true] at h
        cases i with
        | zero => simpa using h.1
        | succ i => simpa using ih i h.2 (by simpa using hi)
    exact fun i hi => this xs i hplain hi
  refine callsIn_of_wp hf hb trivial ?_
  have W : ∀ (r : Code), LOK P S RO L 0 true r [] → Walks P S RO L r [] 0 true none n := fun r hr => evC_sound hs hm r [] 0 true none n hr (by simp)
  have hinit : SR P ⟨w, fun _ => False, w.heap.size, Nat.le_refl _⟩ Y Y none2 (initSt fn.ntmps (.yl l :: caps)) { tmps := (#[Value.func (.yield l) #[] #[]] ++ lb) ++ Array.replicate (fn.ntmps - (#[Value.func (.yield l) #[] #[]] ++ lb).size) undef, defers := [] } w :=
    init_SR hY (by simp [hlb]; omega) (by simpa using hargs) (fun k hk => by
      cases k with
      | zero =>
        have e : (#[Value.func (.yield l) #[] #[]] ++ lb).getD 0 undef = .func (.yield l) #[] #[] := by simp [Array.getD_eq_getD_getElem?, Array.getElem?_append]
        rw [e]
        exact .yl
      | succ k =>
        have := hcaps k (by simpa using hk)
        simpa [Array.getD_eq_getD_getElem?, Array.getElem?_append] using this)
  -- leaving the function
  have fin : ∀ (e : Exit) (a' : Act) (w' : World), (e = .normal ∨ e = .ret) → a'.defers = [] → (J xs.length w' ∨ Jx w') → bodyPost P fn (fun e W' => (∃ v, e = .returned v) ∧ (J (xs.map fun x => [x]).length W' ∨ Jx W')) e a' w' := by
    intro e a' w' he hd hj
    have hr : ∃ v, (results fn a'.tmps).run P w' = .ok v w' := by
      simp [results, hres]
    obtain ⟨v, hv⟩ := hr
    rcases he with rfl | rfl <;> exact ⟨hd, v, hv, ⟨v, rfl⟩, by simpa using hj⟩
  refine wpIn_seq (W r0 (hL 0 []).1 hinit (fun _ _ => rfl) (Nat.zero_le _) (h0 l) fun D' R' e s a' w' hS hF _ hdf _ _ hK => ?_)
  cases e with
  | ext k => cases hK
  | ret => cases hK
  | nrm =>
    simp only at hK
    have hd' : a'.defers = [] := hdf rfl
    have hbl : Below w.heap.size w w' := ⟨hS.old.os, hS.old.tape, hS.old.output, hS.old.size, fun k hk => hS.old.block k hk (fun h => h)⟩
    have hS0 := kp_SR hS hK ⟨rfl, rfl, rfl, Nat.le_refl _, fun k o ho _ _ => ho⟩ hd'
    have hJ0' := hJ 0 w w' hJ0 hbl
    refine wpIn_block ?_
    refine loop_of ?_
    -- the rounds
    generalize hB : Code.seq r1 (.seq (.cond (.tmp t8) .skip (.exit 0)) (.seq (.block 1 (.seq r2 (.seq (.region id ops true) (.cond (.tmp z) .ret .skip)))) r4)) = B
    generalize hQ : bodyPost P fn (fun e W' => (∃ v, e = .returned v) ∧ (J (xs.map fun x => [x]).length W' ∨ Jx W')) = Q at fin
    have loop : ∀ (m i : Nat), xs.length - i = m → i ≤ xs.length → ∀ (b : Base) (a : Act) (w : World), SR P b Y Y none2 (stI l i) a w → b.w = w → (∀ k, ¬ b.Y k) → a.defers = [] → J i w →
        ∀ (bf : Frame) (k : List Item) (cs : List Frame), bf.roundOf = (FW none).round → (FW none).fn bf.fn → (FW none).room (cs.length + 1 + n) → ∃ e a' w', Exit.inBlock 0 Q e a' w' ∧
          ArrivesIn (Machine.fenced P (FW none)) P (lone (bf.atR a (.code B :: .inLoop B :: k)) cs w) bf k cs e a' w' := by
      intro m
      induction m using Nat.strongRecOn with
      | ind m ih =>
      intro i him hi b a w hS hbw hbY hda hJi
      have hbl : ∀ {st' : St} {D' : Nat → Prop} {R' : Nat → Option (Nat × Nat)} {a' : Act} {w' : World}, SR P b Y D' R' st' a' w' → Below w.heap.size w w' := fun h => by
        have := h.old
        subst hbw
        exact ⟨this.os, this.tape, this.output, this.size, fun k hk => this.block k hk (hbY k)⟩
      have hT : ∃ r, sliceT P S RO L r1 r2 t8 ops c yv xv keep (stI l i) = some r ∧ ((i < xs.length ∧ r = some (.yl l, xs.getD i .u, stI l i)) ∨ (i = xs.length ∧ r = none)) := by
        by_cases h : i < xs.length
        · exact ⟨_, h1 l i h, .inl ⟨h, rfl⟩⟩
        · have e : i = xs.length := by omega
          exact ⟨_, by rw [e]; exact h1n l, .inr ⟨e, rfl⟩⟩
      obtain ⟨r, hT, hr⟩ := hT
      subst hB
      refine of_loop (wpIn_seq (W r1 (hL 0 []).2.1 hS (fun _ _ => rfl) (Nat.zero_le _) hT fun D1 R1 e1 s1 a1 w1 hS1 hF1 _ hd1 _ _ hK1 => ?_))
      cases e1 with
      | ext k => cases hK1
      | ret => cases hK1
      | nrm =>
      refine wpIn_seq (evC_sound hs hm (.cond (.tmp t8) .skip (.exit 0)) [] 0 true none n ⟨trivial, trivial⟩ (by simp) hS1 hF1 (Nat.zero_le _) hK1 fun D2 R2 e2 s2 a2 w2 hS2 hF2 _ hd2 _ _ hK2 => ?_)
      have hda2 : a2.defers = [] := (hd2 rfl).trans ((hd1 rfl).trans hda)
      cases e2 with
      | ret => cases hK2
      | ext k =>
        obtain ⟨hk, hK2⟩ := cond_some hK2
        have hk0 := Nat.eq_of_beq_eq_true hk
        have hrn : r = none := by simpa using hK2.symm
        have hin : i = xs.length := by
          rcases hr with ⟨_, hr⟩ | ⟨hr, _⟩
          · rw [hrn] at hr; cases hr
          · exact hr
        subst hk0
        show Exit.inBlock 0 Q (.exit 0) a2 w2
        simp only [Exit.inBlock, if_true]
        exact fin .normal a2 w2 (.inl rfl) hda2 (.inl (by rw [← hin]; exact hJ i w w2 hJi (hbl hS2)))
      | nrm =>
      simp only at hK2
      refine wpIn_seq (wpIn_block (wpIn_seq (W r2 (hL 0 []).2.2.1 hS2 hF2 (Nat.zero_le _) hK2 fun D3 R3 e3 s3 a3 w3 hS3 hF3 _ hd3 _ _ hK3 => ?_)))
      cases e3 with
      | ext k => cases hK3
      | ret => cases hK3
      | nrm =>
      simp only at hK3
      refine wpIn_seq (region_cut hs hm hdr (c := c) (by omega) hcut hS3 hF3 hK3 fun D4 R4 s4 a4 w4 hS4 hF4 _ hd4 _ hnt4 hK4 => ?_)
      have hda4 : a4.defers = [] := hd4.trans ((hd3 rfl).trans hda2)
      cases hno : norm P keep 0 s4 with
      | none => rw [hno] at hK4; cases hK4
      | some s' =>
      rw [hno] at hK4
      simp only [Option.some.injEq] at hK4
      obtain ⟨hin, e1, e2, e3⟩ : i < xs.length ∧ gt s4.t yv = .yl l ∧ gt s4.t xv = xs.getD i .u ∧ s' = stI l i := by
        rcases hr with ⟨h, hr⟩ | ⟨_, hr⟩
        · rw [hr] at hK4
          simp only [Option.some.injEq, Prod.mk.injEq] at hK4
          exact ⟨h, hK4.1, hK4.2.1, hK4.2.2⟩
        · rw [hr] at hK4; cases hK4
      subst e3
      obtain ⟨_, hnti, hui, huz⟩ := hnx l i
      have hsz4 : a4.tmps.size = fn.ntmps := by
        obtain ⟨g1, _, _, g4⟩ := norm_sound hS4 hno
        rw [g1.nt]; exact hnti
      have hyev : a4.eval (.tmp yv) = .func (.yield l) #[] #[] := by
        have := hS4.tmp yv
        rw [e1] at this
        show a4.tmps.getD yv undef = _
        generalize a4.tmps.getD yv undef = q at this
        cases this; rfl
      have hxev : VR P D4 R4 w4 (xs.getD i .u) (a4.eval (.tmp xv)) := by
        have := hS4.tmp xv
        rw [e2] at this
        exact this
      rw [hsz, show c + 2 - c = 2 by omega]
      simp only [List.range'_succ, List.range'_zero, wpOpsIn, ho1, ho2]
      rw [if_pos (by simp [Region.wanted, hg1])]
      refine yield_op hp1 hc1 ha1 hyev hxev (pl i hin) (fun m => hyield i [xs.getD i .u] w4 m (hJ i w w4 hJi (hbl hS4)) (by simp [List.getD_eq_getElem?_getD, List.getElem?_eq_getElem hin])) fun e5 w5 he => ?_
      have op2 : ∀ (tb : Bool) (nx : Act → World → Prop) (Qx : Exit → Act → World → Prop), nx ((a4.put o1.dst (.bool tb)).put o2.dst (.bool (!tb))) w5 → o2.wpIn (FW none) n P (a4.put o1.dst (.bool tb)) w5 nx Qx := by
        intro tb nx Qx hnx'
        have ev : (a4.put o1.dst (.bool tb)).eval (.tmp yd) = .bool tb := by
          rw [hdo1]
          show (a4.tmps.setIfInBounds yd (.bool tb)).getD yd undef = _
          simp [Array.getD_eq_getD_getElem?, hsz4, hyz.1]
        refine wpIn_value (w' := w5) (v := .bool (!tb)) (fun c' hc' => by rw [hp2] at hc'; cases hc') ?_ hnx'
        simp only [execOp, hp2, ev]
        simp [Op.unary]
      have hzev : ∀ tb, ((a4.put o1.dst (.bool tb)).put o2.dst (.bool (!tb))).eval (.tmp z) = .bool (!tb) := by
        intro tb
        rw [hdo1, hdo2]
        show ((a4.tmps.setIfInBounds yd (.bool tb)).setIfInBounds z (.bool (!tb))).getD z undef = _
        simp [Array.getD_eq_getD_getElem?, hsz4, hyz.2]
      have hdf6 : ∀ tb, ((a4.put o1.dst (.bool tb)).put o2.dst (.bool (!tb))).defers = [] := fun tb => by rw [put_defers, put_defers]; exact hda4
      rcases he with ⟨rfl, hj5, hkp⟩ | ⟨rfl, hjx⟩
      · refine ⟨_, rfl, ?_⟩
        rw [if_pos (by simp [Region.wanted, hg2])]
        refine op2 true _ _ ?_
        show (Code.cond (.tmp z) .ret .skip).wpIn (FW none) n P _ _ w5
        refine wpIn_cond (t := false) (hzev true) ?_
        refine wpIn_skip ?_
        show r4.wpIn (FW none) n P _ _ w5
        have hS5 := kp_SR hS4 hno hkp hda4
        have hS6 : SR P ⟨w5, fun _ => False, 0, Nat.zero_le _⟩ Y Y none2 (stI l i) ((a4.put o1.dst (.bool true)).put o2.dst (.bool (!true))) w5 := by
          have q := (hS5.put (d := some yd) (v := .b true) (v' := .bool true) (fun x hx => by cases hx; rw [hnti]; exact hyz.1) .b).put (d := some z) (v := .b false) (v' := .bool false) (fun x hx => by cases hx; rw [put_nt, hnti]; exact hyz.2) .b
          rw [hdo1, hdo2]
          refine { q with tmp := fun t => ?_, nt := q.nt.trans ?_, mem := fun id e es he => hS5.mem id e es he, df := q.df }
          · have := q.tmp t
            simp only [St.put, gt_cons] at this
            by_cases e1 : t = z
            · rw [e1, huz]; exact .u
            · by_cases e2 : t = yd
              · rw [e2, hui]; exact .u
              · simpa [e1, e2] using this
          · rfl
        refine W r4 (hL 0 []).2.2.2 hS6 (fun _ _ => rfl) (Nat.zero_le _) (h4 l i hin) fun D7 R7 e7 s7 a7 w7 hS7 hF7 _ hd7 _ _ hK7 => ?_
        cases e7 with
        | ext k => cases hK7
        | ret => cases hK7
        | nrm =>
        simp only at hK7
        have hda7 : a7.defers = [] := (hd7 rfl).trans (hdf6 true)
        have hbl7 : Below w5.heap.size w5 w7 := ⟨hS7.old.os, hS7.old.tape, hS7.old.output, hS7.old.size, fun k hk => hS7.old.block k hk (fun h => h)⟩
        have hS8 := kp_SR hS7 hK7 ⟨rfl, rfl, rfl, Nat.le_refl _, fun k o ho _ _ => ho⟩ hda7
        exact ih (xs.length - (i + 1)) (by omega) (i + 1) rfl (by omega) _ a7 w7 hS8 rfl (fun _ h => h) hda7 (hJ (i + 1) w5 w7 hj5 hbl7)
      · refine ⟨_, rfl, ?_⟩
        rw [if_pos (by simp [Region.wanted, hg2])]
        refine op2 false _ _ ?_
        show (Code.cond (.tmp z) .ret .skip).wpIn (FW none) n P _ _ w5
        refine wpIn_cond (t := true) (hzev false) ?_
        refine wpIn_ret ?_
        exact fin .ret _ w5 (.inr rfl) (hdf6 false) (.inr hjx)
    exact loop _ 0 rfl (Nat.zero_le _) _ a' w' hS0 rfl (fun _ h => h) hd' hJ0'
end Go.Ev
