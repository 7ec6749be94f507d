/-
  The law WearRates returns true for every climate and all numbers, and leaves its arguments as they were. No conditions.
-/
import Derived.Test.YteclfchlejocmaaEvI
set_option linter.unusedVariables false
set_option linter.unusedSimpArgs false
namespace Go.Ev
open Go Go.RowKit

variable {P : Program} {w0 : Base} {X D : Nat → Prop} {R : Nat → Option (Nat × Nat)} {st : St} {a : Act} {w : World}
variable {ro : Option Nat} {n : Nat} {o : Oper} {next : Act → World → Prop} {Q : Exit → Act → World → Prop} {ρ : Type} {K : Eff → Option ρ} {r : ρ} {site : Nat} {S : Spec} {RO : Nat → Bool}

theorem app_at {l1 l2 : List AV} {v1 v2 : List Value} (hl : v1.length = l1.length) (h1 : ∀ k, k < l1.length → VR P D R w (l1.getD k .u) (v1.getD k undef)) (h2 : ∀ k, k < l2.length → VR P D R w (l2.getD k .u) (v2.getD k undef)) :
    ∀ k, k < (l1 ++ l2).length → VR P D R w ((l1 ++ l2).getD k .u) ((v1 ++ v2).getD k undef) := by
  intro k hk
  simp only [List.length_append] at hk
  by_cases h : k < l1.length
  · have := h1 k h
    simpa [List.getD_eq_getElem?_getD, List.getElem?_append_left h, List.getElem?_append_left (show k < v1.length by omega)] using this
  · have := h2 (k - l1.length) (by omega)
    simpa [List.getD_eq_getElem?_getD, List.getElem?_append_right (show l1.length ≤ k by omega), List.getElem?_append_right (show v1.length ≤ k by omega), hl] using this
theorem numOf_spec (h : SR P w0 X D R st a w) {d : Int} {y : Option Operand} {k : IntKind} {l : Int} (hl : numOf st d y = .i k l) : (y.map a.eval = none ∧ l = d) ∨ ∃ k, y.map a.eval = some (.int k l) := by
  cases y with
  | none => simp only [numOf, AV.i.injEq] at hl; exact .inl ⟨rfl, hl.2.symm⟩
  | some y =>
    have := h.val y
    simp only [numOf] at hl
    rw [hl] at this
    exact .inr ⟨k, by rw [Option.map_some, this.int_inv.1]⟩
theorem run_bounds {isSlice : Bool} {len cap : Nat} {lo hi : Option Value} {l q : Int} (hlo : (lo = none ∧ l = 0) ∨ ∃ k, lo = some (.int k l)) (hhi : (hi = none ∧ q = (len : Int)) ∨ ∃ k, hi = some (.int k q))
    (h0 : 0 ≤ l) (h1 : l ≤ q) (h2 : q ≤ (len : Int)) (hc : len ≤ cap) : (Instr.sliceBounds isSlice len cap lo hi none).run P w = .ok (l.toNat, q.toNat, cap) w := by
  have eq : (q.toNat : Int) = q := Int.toNat_of_nonneg (by omega)
  have hq0 : 0 ≤ q := by omega
  have hqc : q ≤ (cap : Int) := by omega
  rcases hlo with ⟨rfl, rfl⟩ | ⟨k, rfl⟩ <;> rcases hhi with ⟨rfl, rfl⟩ | ⟨k', rfl⟩ <;>
    simp [Instr.sliceBounds, Instr.sliceBound, asIntOf, h0, h1, hq0, hqc, eq]

theorem minmax_sound {mx : Bool} {c : Call} (h : SR P w0 X D R st a w) (hb : ∀ x, o.dst = some x → x < st.nt) (hn : After P w0 X D R st a w o site K r next) (hd : ∀ c, o.op ≠ .defer c)
    (hop : o.op = .call c) (hc : c.callee = .builtin (if mx then .max else .min))
    (hresb : ∀ b, c.callee = .builtin b → ∃ cs, (resolve a.eval c o.type).run P w = .ok { target := .builtin b c.argTypes o.type cs, args := c.args.map a.eval } w)
    (he : (match c.args.toList.map (val st) with
      | x :: r => match best (if mx then bmax else bmin) x r with
        | some v => K ⟨v, none⟩
        | none => none
      | [] => none) = some r) : o.wpIn (FW ro) n P a w next Q := by
  have hargs := args_at h c.args.toList
  split at he <;> first | (cases he; done) | skip
  rename_i x l hl
  split at he <;> first | (cases he; done) | skip
  rename_i v hbest
  have hlen : c.args.toList.length = l.length + 1 := by have := congrArg List.length hl; simpa using this
  match hcl : c.args.toList, hlen with
  | y :: ys, hlen =>
    rw [hcl] at hl hargs
    simp only [List.map_cons, List.cons.injEq] at hl
    obtain ⟨e1, e2⟩ := hl
    obtain ⟨u, g1, g2⟩ := best_sound (P := P) (D := D) (R := R) (w := w) (mx := mx) (lv := ys.map a.eval) hbest (e1 ▸ h.val y) (by simpa using hlen) (fun k hk => by
      have := hargs (k + 1) (by simp at hlen ⊢; omega)
      rw [← e2]
      simpa using this)
    refine op_value h hb hn hd (v' := u) ?_ g2 he
    obtain ⟨csb, hrb⟩ := hresb _ hc
    simp only [execOp, hop, Sem.run_bind, hrb, Result.andThen_ok, invoke]
    have ht : (c.args.map a.eval).toList = a.eval y :: ys.map a.eval := by simp [hcl]
    cases mx
    · simp only [Bool.false_eq_true, if_false] at g1 ⊢
      simp only [builtin, Builtin.min_, ht, Sem.run_bind, g1, Result.andThen_ok, Sem.run_pure]
    · simp only [if_true] at g1 ⊢
      simp only [builtin, Builtin.max_, ht, Sem.run_bind, g1, Result.andThen_ok, Sem.run_pure]

/-- **One operation.** -/
theorem evOp_sound (hs : SpecOK P S) (h : SR P w0 X D R st a w) (hf : R site = none) (hb : ∀ x, o.dst = some x → x < st.nt) (he : evOp P S RO site o st K = some r)
    (hn : After P w0 X D R st a w o site K r next) : o.wpIn (FW ro) n P a w next Q := by
  unfold evOp at he
  have hd : ∀ c, o.op ≠ .defer c := by intro c hc; simp [hc] at he
  cases hop : o.op <;> simp only [hop] at he <;> try (cases he; done)
  case move x => exact op_value h hb hn hd (by simp [execOp, hop]) (VR_fitT _ (h.val x)) he
  case assign x => exact op_value h hb hn hd (by simp [execOp, hop]) (VR_fitT _ (h.val x)) he
  case pick c x y =>
    have hc := h.val c
    have hx := h.val x
    have hy := h.val y
    generalize val st c = vc at he hc
    generalize val st x = vx at he hx
    generalize val st y = vy at he hy
    split at he
    · rename_i t
      have ec := hc.bool_inv
      have hrun : (execOp a.eval o).run P w = .ok (.value (if t then a.eval x else a.eval y)) w := by simp [execOp, hop, ec, run_asBool]
      split at he
      · rename_i p q
        have e1 := hx.bool_inv
        have e2 := hy.bool_inv
        refine op_value h hb hn hd hrun ?_ he
        cases t
        · simpa [e2] using VR.b
        · simpa [e1] using VR.b
      · cases t
        · exact op_value h hb hn hd (by simpa using hrun) hy he
        · exact op_value h hb hn hd (by simpa using hrun) hx he
    · cases he
  case unOp op t x =>
    have hx := h.val x
    cases op <;> simp only at he <;> first | (cases he; done) | skip
    all_goals (split at he <;> first | (cases he; done) | skip)
    · rename_i hv
      rw [hv] at hx
      obtain ⟨e, _⟩ := hx.int_inv
      refine op_value h hb hn hd (v' := .int _ (IntKind.wrap _ (0 - _))) ?_ (.i (inR_wrap _ _).1 (inR_wrap _ _).2) he
      simp only [execOp, hop, e]
      simp [Op.unary, Op.intArith]
    · rename_i hv
      rw [hv] at hx
      have e := hx.bool_inv
      exact op_value h hb hn hd (by simp only [execOp, hop, e]; simp [Op.unary]) .b he
  case binOp op t x y yt =>
    obtain ⟨v, v', h1, h2, h3⟩ := bin_sound (ox := x) (oy := y) (h.val x) (h.val y) he
    refine op_value h hb hn hd (v' := v') ?_ h2 h3
    simp only [execOp, hop, Sem.run_bind, Sem.run_pure] at h1 ⊢
    rw [h1]
    rfl
  case convert src dst x =>
    have hx := h.val x
    split at he <;> first | (cases he; done) | skip
    · rename_i hu1 hu2 hv
      rw [hv] at hx
      obtain ⟨e, _⟩ := hx.int_inv
      refine op_value h hb hn hd (v' := .int _ (IntKind.wrap _ _)) ?_ (.i (inR_wrap _ _).1 (inR_wrap _ _).2) he
      simp only [execOp, hop, e]
      simp [Go.convert, run_underlying' hu1, run_underlying' hu2, Conv.intToInt]
    · rename_i hu1 hu2 hv
      rw [hv] at hx
      obtain ⟨e, hsz⟩ := hx.str_inv
      refine op_value h hb hn hd ?_ (.s hsz) he
      simp only [execOp, hop, e]
      simp [Go.convert, run_underlying' hu1, run_underlying' hu2]
  case extract x j =>
    have hx := h.val x
    split at he <;> first | (cases he; done) | skip
    rename_i vs hv
    rw [hv] at hx
    split at he <;> first | (cases he; done) | skip
    rename_i v hj
    generalize hax : a.eval x = ax at hx
    cases hx with
    | @tup cs cv h1 h2 =>
      have hlt : j < vs.length := (List.getElem?_eq_some_iff.1 hj).1
      have hlt' : j < cv.size := by omega
      refine op_value h hb hn hd (v' := cv[j]) ?_ ?_ he
      · simp only [execOp, hop, hax]
        simp [Instr.extract, hlt']
      · have := h2 j hlt
        simpa [List.getD_eq_getElem?_getD, Array.getD_eq_getD_getElem?, hj, hlt'] using this
  case field t x f =>
    have hx := h.val x
    split at he <;> first | (cases he; done) | skip
    rename_i fs cs hu hv
    rw [hv] at hx
    split at he <;> first | (cases he; done) | skip
    rename_i fd hfd
    split at he <;> first | (cases he; done) | skip
    rename_i v hp
    obtain ⟨cv, e, h1, h2⟩ := hx.agg_inv
    obtain ⟨u, g1, g2⟩ := partV_sound h1 h2 hp
    refine op_value h hb hn hd (v' := u) ?_ g2 he
    simp only [execOp, hop, e]
    simp [Instr.field, run_underlying' hu, hfd, asAgg, g1]
  case build t parts =>
    split at he <;> first | (cases he; done) | skip
    rename_i fs z hu hz
    split at he <;> first | (cases he; done) | skip
    rename_i cs hfill
    split at he <;> first | (cases he; done) | skip
    rename_i cs' hfit
    obtain ⟨hinfo, he⟩ := cond_some he
    obtain ⟨i, zv, z1, z2, z3, z4, z5⟩ := zeroOf_sound (P := P) (D := D) (R := R) (w := w) hz
    obtain ⟨cv, g1, g2, g3⟩ := fill_sound (P := P) (D := D) (R := R) (w := w) (pc := fun i => (fs[i]?).map fun f => (f.offset, P.cellsOf f.type)) (pv := parts.toList.map fun p => (p.1, a.eval p.2))
      (fun i x hx => by
        simp only [place] at hx
        cases hfi : fs[i]? with
        | none => simp [hfi] at hx
        | some f => simp [hfi] at hx; subst hx; simp)
      hfill z4 z5 (by simp) (fun k hk => by
        simp only [List.length_map] at hk
        rw [getD_map _ _ _ (0, .const Go.undef) _ hk, getD_map _ _ _ (0, .const Go.undef) _ hk]
        exact ⟨rfl, h.val _⟩)
    obtain ⟨f1, f2, f3, f4⟩ := fitCs_sound (P := P) (D := D) (R := R) (w := w) (cv := cv.toList) hfit (by simpa using g2) (fun k hk => by
      have := g3 k hk
      simpa [Array.getD_eq_getD_getElem?, List.getD_eq_getElem?_getD] using this)
    refine op_value h hb hn hd (v' := .agg cv) ?_ (.agg (by rw [f2]; exact g2) (fun k hk => by
      have := f3 k hk
      simpa [Array.getD_eq_getD_getElem?, List.getD_eq_getElem?_getD] using this)) he
    have hm : (fs.mapM fun f => (do pure (f.offset, ← sizeOf f.type) : Sem (Nat × Nat))).run P w = .ok (fs.map fun f => (f.offset, P.cellsOf f.type)) w := by
      rw [Array.mapM_eq_mapM_toList]
      have : ∀ l : List Field, l.all (fun f => (P.info? f.type).isSome) = true → (l.mapM fun f => (do pure (f.offset, ← sizeOf f.type) : Sem (Nat × Nat))).run P w = .ok (l.map fun f => (f.offset, P.cellsOf f.type)) w := by
        intro l
        induction l with
        | nil => intro _; simp
        | cons f l ih =>
          intro hl
          simp only [List.all_cons, Bool.and_eq_true] at hl
          obtain ⟨i, hi⟩ := Option.isSome_iff_exists.1 hl.1
          have e1 : (sizeOf f.type).run P w = .ok (P.cellsOf f.type) w := by simp [sizeOf, typeInfo, hi, Program.cellsOf]
          simp only [List.mapM_cons, Sem.run_bind, e1, Result.andThen_ok, Sem.run_pure, ih hl.2, List.map_cons]
      simp only [Sem.run_map, this _ hinfo, Result.andThen_ok]
      congr 1
      apply Array.ext'
      simp
    have hpl : (fun (i : Nat) => (fs.map fun f => (f.offset, P.cellsOf f.type))[i]?) = fun (i : Nat) => (fs[i]?).map fun (f : Field) => (f.offset, P.cellsOf f.type) := by
      funext i; simp
    simp only [execOp, hop, Sem.run_bind, Sem.run_pure]
    simp only [Instr.build, Sem.run_bind, zeroValue, typeInfo, run_program, Result.andThen_ok, z1, z2, Sem.run_pure, run_underlying' hu, hm]
    have : (parts.map fun x => match x with | (i, x) => (i, a.eval x)).toList = parts.toList.map fun p => (p.1, a.eval p.2) := by simp
    rw [this, hpl, g1]
    simp
  case fieldAddr t x f =>
    have hx := h.val x
    split at he <;> first | (cases he; done) | skip
    rename_i fs hu
    generalize val st x = ax at he hx
    split at he <;> first | (cases he; done) | skip
    · rename_i fd id i j hfd
      cases hz : Nat.beq (P.cellsOf fd.type) 0 with
      | true => rw [hz] at he; cases he
      | false =>
        rw [hz] at he
        have hz' : 0 < P.cellsOf fd.type := by
          rcases Nat.eq_zero_or_pos (P.cellsOf fd.type) with h | h
          · rw [h] at hz; cases hz
          · exact h
        generalize hax : a.eval x = xv at hx
        cases hx with
        | @p _ _ _ b sz hR =>
          refine op_value h hb hn hd ?_ (.p (i := i) (j := j + fd.offset) hR) he
          simp only [execOp, hop, hax]
          simp [Instr.fieldAt, run_underlying' hu, hfd, Instr.sureAddr, run_fieldPlace hz', Nat.add_assoc]
    · rename_i fd all cs j hfd
      cases hz : Nat.beq (P.cellsOf fd.type) 0 with
      | true => rw [hz] at he; cases he
      | false =>
        rw [hz] at he
        have hz' : 0 < P.cellsOf fd.type := by
          rcases Nat.eq_zero_or_pos (P.cellsOf fd.type) with h | h
          · rw [h] at hz; cases hz
          · exact h
        generalize hax : a.eval x = xv at hx
        cases hx with
        | @rp _ _ _ b o' f' g1 g2 g3 g4 g5 =>
          refine op_value h hb hn hd ?_ (.rp (j := j + fd.offset) g1 g2 g3 g4 g5) he
          simp only [execOp, hop, hax]
          simp [Instr.fieldAt, run_underlying' hu, hfd, Instr.sureAddr, run_fieldPlace hz', Nat.add_assoc]
  case indexAddr t x ix =>
    have hx := h.val x
    have hi := h.val ix
    split at he <;> first | (cases he; done) | skip
    · rename_i e e' es k q hu hv1 hv2
      rw [hv1] at hx; rw [hv2] at hi
      obtain ⟨hc, he2⟩ := cond_some he
      simp only [Bool.and_eq_true] at hc
      have := Nat.eq_of_beq_eq_true hc.1
      subst this
      obtain ⟨b1, b2, b3⟩ := inb_spec hc.2
      obtain ⟨ei, _⟩ := hi.int_inv
      obtain ⟨b, o', c, e1, hz, hv⟩ := hx.rs_row b3
      refine op_value h hb hn hd ?_ hv he2
      simp only [execOp, hop, e1, ei, Sem.run_bind, run_indexAt_slice hu b1 b2 hz, Result.andThen_ok, add_plain', Sem.run_pure]
    · rename_i e id off len k q hu hv1 hv2
      rw [hv1] at hx; rw [hv2] at hi
      obtain ⟨ei, _⟩ := hi.int_inv
      split at he <;> first | (cases he; done) | skip
      rename_i e' es hm
      obtain ⟨hc, he2⟩ := cond_some he
      simp only [Bool.and_eq_true] at hc
      have := Nat.eq_of_beq_eq_true hc.1
      subst this
      obtain ⟨b1, b2, b3⟩ := inb_spec hc.2
      generalize hax : a.eval x = xv at hx
      cases hx with
      | @sl _ _ _ b sz c hR hle _ =>
        obtain ⟨b', cells, ty, m1, m2, m3, m4, _⟩ := h.mem _ _ _ hm
        rw [hR] at m1
        injection m1 with m1
        injection m1 with m1 m1'
        subst m1'
        refine op_value h hb hn hd (v' := .pointer (some ⟨b, (off + q.toNat) * P.cellsOf e + 0, none⟩)) ?_ (.p hR) he2
        simp only [execOp, hop, hax, ei, Sem.run_bind, run_indexAt_slice hu b1 b2 m4, Result.andThen_ok, add_plain', Sem.run_pure, Nat.add_mul, Nat.add_zero]
    · rename_i len e id i j k q hu hv1 hv2
      rw [hv1] at hx; rw [hv2] at hi
      obtain ⟨ei, _⟩ := hi.int_inv
      obtain ⟨hc, he⟩ := cond_some he
      simp only [Bool.and_eq_true] at hc
      have hz : 0 < P.cellsOf e := by simpa [Nat.blt_eq] using hc.1
      obtain ⟨b1, b2, b3⟩ := inb_spec hc.2
      generalize hax : a.eval x = xv at hx
      cases hx with
      | @p _ _ _ b sz hR =>
        refine op_value h hb hn hd (v' := .pointer (some ⟨b, i * sz + (j + q.toNat * P.cellsOf e), none⟩)) ?_ (.p hR) he
        simp only [execOp, hop, hax, ei]
        simp [Instr.indexAt, asIntOf, run_underlying' hu, Instr.sureAddr, b1, b2, run_sizeOf' hz, add_plain', Nat.add_assoc]
  case load t x =>
    obtain ⟨v, u, h1, h2, h3⟩ := look_sound h (h.val x) he
    refine op_value h hb hn hd (v' := u) ?_ h2 h3
    simp only [execOp, hop, Sem.run_bind, h1, Result.andThen_ok, Sem.run_pure]
  case nilCheck x =>
    have hx := h.val x
    generalize hax : a.eval x = xv at hx
    split at he <;> first | (cases he; done) | skip
    · rename_i hv
      rw [hv] at hx
      cases hx with
      | p hR => exact op_value h hb hn hd (by simp only [execOp, hop, hax]; simp) (.p hR) he
    · rename_i hv
      rw [hv] at hx
      cases hx with
      | rp g1 g2 g3 g4 g5 => exact op_value h hb hn hd (by simp only [execOp, hop, hax]; simp) (.rp g1 g2 g3 g4 g5) he
  case index t x ix =>
    have hx := h.val x
    have hi := h.val ix
    split at he <;> first | (cases he; done) | skip
    rename_i s k q hu hv1 hv2
    rw [hv1] at hx; rw [hv2] at hi
    obtain ⟨ei, _⟩ := hi.int_inv
    obtain ⟨ex, _⟩ := hx.str_inv
    obtain ⟨hc, he⟩ := cond_some he
    obtain ⟨b1, b2, b3⟩ := inb_spec hc
    refine op_value h hb hn hd (v' := .int .u8 ((s.data.toList.getD q.toNat 0).toNat : Int)) ?_ (.i ?_ ?_) he
    · simp only [execOp, hop, ex, ei]
      have : s[q.toNat]? = some (s.data.toList.getD q.toNat 0) := by
        have hlt : q.toNat < s.data.size := b3
        simp [getElem?_pos, b3, List.getD_eq_getElem?_getD, hlt]
        rfl
      simp [Instr.index, asIntOf, run_underlying' hu, b1, this]
    · simp [IntKind.min, IntKind.signed]
    · have := (s.data.toList.getD q.toNat 0).toNat_lt
      simp [IntKind.max, IntKind.signed, IntKind.bits] at this ⊢
      omega
  case makeFunc fn first caps =>
    cases fn <;> simp only at he <;> first | (cases he; done) | skip
    rename_i f
    obtain ⟨hc, he⟩ := cond_some he
    have h0 : first = #[] := by
      have := Nat.eq_of_beq_eq_true hc
      exact Array.eq_empty_of_size_eq_zero this
    subst h0
    refine op_value h hb hn hd (v' := .func (.func f) #[] (caps.map a.eval)) ?_ (.fn (by simp) (fun k hk => ?_)) he
    · simp only [execOp, hop]; simp [Instr.makeFunc]
    · have := args_at h caps.toList k hk
      simpa [Array.getD_eq_getD_getElem?, List.getD_eq_getElem?_getD] using this
  case box t x =>
    split at he <;> first | (cases he; done) | skip
    rename_i cs hfit
    obtain ⟨g1, g2, g3, _⟩ := fit_sound hfit (h.val x)
    refine fresh_sound h hf hb hn hd g1 g2 g3 ?_ he
    simp only [execOp, hop, Sem.run_bind, run_box', Result.andThen_ok, Sem.run_pure]
  case buildSlice t n parts =>
    split at he <;> first | (cases he; done) | skip
    rename_i e hu
    split at he <;> first | (cases he; done) | skip
    rename_i z hz
    obtain ⟨hg, he⟩ := cond_some he
    simp only [Bool.and_eq_true] at hg
    have hbig : n * P.cellsOf e ≤ 16777216 := Nat.le_of_ble_eq_true hg.1
    have hzl : z.length = P.cellsOf e := Nat.eq_of_beq_eq_true hg.2
    split at he <;> first | (cases he; done) | skip
    rename_i cs hfill
    split at he <;> first | (cases he; done) | skip
    rename_i es hrows
    obtain ⟨i, zv, z1, z2, z3, z4, z5⟩ := zeroOf_sound (P := P) (D := D) (R := R) (w := w) hz
    have hcl : (cts P e).length = P.cellsOf e := by rw [← z3.1, hzl]
    have hzs : zv.cells.size = P.cellsOf e := by rw [z4, hzl]
    have hflat : ((List.replicate n z).flatten).length = n * P.cellsOf e := by simp [hzl]
    obtain ⟨cv, g1, g2, g3⟩ := fill_sound (P := P) (D := D) (R := R) (w := w) (pc := fun i => some (i * P.cellsOf e, P.cellsOf e)) (pv := parts.toList.map fun p => (p.1, a.eval p.2))
      (cv := (Array.range (n * P.cellsOf e)).map fun k => zv.cells[k % zv.cells.size]!)
      (fun i x hx => by simp only [Option.some.injEq] at hx; subst hx; rfl)
      hfill (by simp [hzl]) (fun k hk => by
        rw [hflat] at hk
        have hpos : 0 < P.cellsOf e := by
          rcases Nat.eq_zero_or_pos (P.cellsOf e) with h0 | h0
          · rw [h0] at hk; omega
          · exact h0
        have hlt := Nat.mod_lt k hpos
        have := z5 (k % P.cellsOf e) (by omega)
        rw [getD_flat z .u n k (by rw [hzl]; exact hk), hzl]
        simpa [Array.getD_eq_getD_getElem?, hk, hzs, hlt, getElem!_def] using this) (by simp) (fun k hk => by
        simp only [List.length_map] at hk
        rw [getD_map _ _ _ (0, .const Go.undef) _ hk, getD_map _ _ _ (0, .const Go.undef) _ hk]
        exact ⟨rfl, h.val _⟩)
    have hcsl : cs.length = n * P.cellsOf e := by rw [fill_length hfill, hflat]
    obtain ⟨q1, q2, q3⟩ := chunk_rows (P := P) (D := D) (R := R) (w := w) hcl (cv := cv.toList) hrows hcsl (by simpa using g2) (fun k hk => by
      have := g3 k hk
      simpa [Array.getD_eq_getD_getElem?, List.getD_eq_getElem?_getD] using this)
    refine freshRow_sound h hf hb hn hd (c := n) (cv := cv) (by omega) q2 (by rw [q1]; omega) (fun i j hi hj => ?_) ?_ he
    · have := q3 i j (by omega) hj
      simpa [Array.getD_eq_getD_getElem?, List.getD_eq_getElem?_getD] using this
    · have hparts : (parts.map fun x => match x with | (i, x) => (i, a.eval x)).toList = parts.toList.map fun p => (p.1, a.eval p.2) := by simp
      have hsz : (sizeOf e).run P w = .ok (P.cellsOf e) w := by simp [sizeOf, typeInfo, z1, Program.cellsOf]
      have hzv : (zeroValue e).run P w = .ok zv w := by simp [zeroValue, typeInfo, z1, z2]
      simp only [execOp, hop, Sem.run_bind, Sem.run_pure]
      have hno : ¬ n * P.cellsOf e > 2 ^ 24 := by omega
      rw [q1]
      simp only [Instr.buildSlice, Sem.run_bind, run_underlying' hu, Result.andThen_ok, hsz, hno, if_false, Sem.run_pure, hparts]
      by_cases h0 : n * P.cellsOf e = 0
      · simp only [h0, if_true, Sem.run_bind, Sem.run_pure, Result.andThen_ok] at g1 ⊢
        have e0 : ((Array.range 0).map fun k => (#[] : Array Value)[k % (#[] : Array Value).size]!) = (Array.range 0).map fun k => zv.cells[k % zv.cells.size]! := by simp
        rw [e0, g1]
        simp [newRow, newObj, Sem.run]
      · simp only [h0, if_false, Sem.run_bind, hzv, Sem.run_pure, Result.andThen_ok]
        rw [g1]
        simp [newRow, newObj, Sem.run]
  case alloc t =>
    split at he <;> first | (cases he; done) | skip
    rename_i cs hz
    obtain ⟨i, zv, z1, z2, z3, z4, z5⟩ := zeroOf_sound (P := P) (D := D) (R := R) (w := w) hz
    refine fresh_sound h hf hb hn hd z3 z4 z5 ?_ he
    simp only [execOp, hop, Sem.run_bind, run_alloc' z1 z2, Result.andThen_ok, Sem.run_pure]
  case store t x v =>
    have hx := h.val x
    have hv := h.val v
    generalize hax : a.eval x = xv at hx
    generalize hav : a.eval v = vv at hv
    split at he <;> first | (cases he; done) | skip
    rename_i id i j cs hv1 hfit
    rw [hv1] at hx
    split at he <;> first | (cases he; done) | skip
    rename_i e es hm
    obtain ⟨hc, he⟩ := cond_some he
    simp only [Bool.and_eq_true] at hc
    obtain ⟨ho, hc, hi⟩ := hc
    have hi : i < es.length := by simpa [Nat.blt_eq] using hi
    obtain ⟨hl, hpos, _⟩ := okT_spec ho
    obtain ⟨q1, q2, q3, q4⟩ := fit_sound hfit hv
    obtain ⟨b, cells, ty, m1, m2, m3, m4, m5, m6, m7⟩ := h.mem _ _ _ hm
    cases hx with
    | @p _ _ _ b' sz hR =>
      rw [hR] at m1
      injection m1 with m1
      injection m1 with e1 e2
      subst e1; subst e2
      have hspec := ctsAt_spec hc
      have hcl : cs.length = P.cellsOf t := by rw [q1.1, hl]
      have hin : j + cs.length ≤ P.cellsOf e := by
        have := (hspec (P.cellsOf t - 1) (by omega)).1
        omega
      have hst := h.store (new := cs) (nv := vv.cells.toList) hm hR m2 hi hin (by simpa using q2)
        (fun k hk => by
          have := (hspec k (by omega)).2
          rw [this]
          exact q1.2 k hk)
        (fun k hk => by
          have := q3 k hk
          simpa [Array.getD_eq_getD_getElem?, List.getD_eq_getElem?_getD] using this)
      have hrow : i * P.cellsOf e + P.cellsOf e ≤ cells.size := by
        have := Nat.mul_le_mul_right (P.cellsOf e) (show i + 1 ≤ es.length by omega)
        rw [Nat.add_mul, Nat.one_mul] at this
        omega
      refine wpIn_skip' hd ?_ (hn D R ⟨_, some (id, _)⟩ _ _ (hst.put hb VR_undef) ⟨fun _ _ => rfl, fun k hlt hd => ⟨hd, setRow_other w b' k _ (fun e => hd (e ▸ (h.own id b' _ hR).1))⟩,
        fun k hd hne => setRow_other w b' k _ (fun e => hne id _ _ rfl (e ▸ hR))⟩ he)
      simp only [execOp, hop, hax, hav, Sem.run_bind, Instr.storeAt, Instr.sureAddr, Sem.run_pure, Result.andThen_ok, storeVar, run_sizeOf' hpos]
      rw [if_neg (by rw [q2, hcl]; simp), run_storeCells_at P b' (i * P.cellsOf e + j) ty vv.cells.toList 0 cells w m2 (by simp; omega) q4]
      simp
  case slice t x lo hi mx =>
    cases mx with
    | some m => cases he
    | none =>
      have hx := h.val x
      generalize hax : a.eval x = xv at hx
      simp only at he
      split at he <;> first | (cases he; done) | skip
      · rename_i e e' es hu hv
        rw [hv] at hx
        split at he <;> first | (cases he; done) | skip
        rename_i k l k' q hl hq
        obtain ⟨hc, he2⟩ := cond_some he
        simp only [Bool.and_eq_true, decide_eq_true_eq] at hc
        obtain ⟨⟨hc1, hz⟩, h0, h1, h2⟩ := hc
        have := Nat.eq_of_beq_eq_true hc1
        subst this
        have hz : 0 < P.cellsOf e := by simpa [Nat.blt_eq] using hz
        have hlo := numOf_spec h hl
        have hhi := numOf_spec h hq
        have main : ∀ (ad : Option Addr) (c : Nat), es.length ≤ c → (Instr.sliceAt t (.slice ad es.length c) (lo.map a.eval) (hi.map a.eval) none).run P w =
            .ok (.slice (if c = l.toNat then ad else ad.map (·.add (l.toNat * P.cellsOf e))) (q.toNat - l.toNat) (c - l.toNat)) w := by
          intro ad c hc
          simp only [Instr.sliceAt, Sem.run_bind, run_underlying' hu, Result.andThen_ok, Instr.slice]
          rw [run_bounds hlo hhi h0 h1 h2 hc]
          simp only [Result.andThen_ok, run_sizeOf' hz, Sem.run_pure]
        have hlen : ((es.take q.toNat).drop l.toNat).length = q.toNat - l.toNat := by simp; omega
        cases hx with
        | @rs0 _ ad c =>
          have hq0 : q.toNat - l.toNat = 0 := by simp at h2; omega
          refine op_value h hb hn hd (v' := .slice (if c = l.toNat then ad else ad.map (·.add (l.toNat * P.cellsOf e))) 0 (c - l.toNat)) ?_ (by
            have : ((([] : List (List AV)).take q.toNat).drop l.toNat) = [] := by simp
            rw [this]; exact .rs0) he2
          have := main ad c (by simp)
          simp only [execOp, hop, Sem.run_bind, hax, Option.map_none]
          simp only [List.length_nil] at this
          rw [this, hq0]
          rfl
        | @rs _ _ b o' c f g1 gz g2 g3 g4 g5 g6 g7 =>
          refine op_value h hb hn hd (v' := .slice (if c = l.toNat then some ⟨b, o', none⟩ else (some ⟨b, o', none⟩ : Option Addr).map (·.add (l.toNat * P.cellsOf e))) (q.toNat - l.toNat) (c - l.toNat)) ?_ ?_ he2
          · simp only [execOp, hop, Sem.run_bind, hax, Option.map_none, main _ c g2]
            rfl
          · by_cases hemp : (es.take q.toNat).drop l.toNat = []
            · rw [hemp]
              have : q.toNat - l.toNat = 0 := by rw [← hlen, hemp]; rfl
              rw [this]
              exact .rs0
            · have hpos : 0 < q.toNat - l.toNat := by
                rw [← hlen]
                exact List.length_pos_iff.2 hemp
              have hne : ¬ c = l.toNat := by omega
              simp only [hne, if_false, Option.map_some, add_plain']
              rw [← hlen]
              obtain ⟨w1, w2, w3⟩ : es.length ≤ 9223372036854775807 ∧ (∀ x, x ∈ es → x.length = (cts P e).length) ∧ (∀ x, x ∈ es → ∀ j, j < x.length → WT P ((cts P e).getD j .oth) (x.getD j .u)) := by
                cases g5 with
                | sl a b c => exact ⟨a, b, c⟩
              have hsub : ∀ x, x ∈ (es.take q.toNat).drop l.toNat → x ∈ es := fun x hx => List.mem_of_mem_take (List.mem_of_mem_drop hx)
              have hget : ∀ i, i < q.toNat - l.toNat → ((es.take q.toNat).drop l.toNat).getD i [] = es.getD (l.toNat + i) [] := fun i hi => by
                simp [List.getD_eq_getElem?_getD, List.getElem?_take, show l.toNat + i < q.toNat by omega]
              refine .rs (f := fun i j => f (l.toNat + i) j) hemp gz (by rw [hlen]; omega) g3 g4 (.sl (by rw [hlen]; omega) (fun x hx => w2 x (hsub x hx)) (fun x hx => w3 x (hsub x hx))) (fun i j hi hj => ?_) (fun i j hi hj => ?_)
              · rw [hlen] at hi
                have := g6 (l.toNat + i) j (by omega) hj
                rw [Nat.add_mul] at this
                rw [← this]
                congr 2
                omega
              · rw [hlen] at hi
                rw [hget i hi]
                exact g7 (l.toNat + i) j (by omega) hj
      · rename_i s hu hv
        rw [hv] at hx
        split at he <;> first | (cases he; done) | skip
        rename_i k l k' q hl hq
        obtain ⟨hc, he2⟩ := cond_some he
        simp only [Bool.and_eq_true, decide_eq_true_eq] at hc
        obtain ⟨h0, h1, h2⟩ := hc
        obtain ⟨rfl, hsz⟩ := hx.str_inv
        have hlo := numOf_spec h hl
        have hhi := numOf_spec h hq
        refine op_value h hb hn hd (v' := .string (s.extract l.toNat q.toNat)) ?_ (.s (by simp; omega)) he2
        simp only [execOp, hop, Sem.run_bind, hax, Option.map_none, Instr.sliceAt, run_underlying' hu, Result.andThen_ok, Instr.slice, Option.isSome_none, Bool.false_eq_true, if_false, Sem.run_pure]
        rw [run_bounds hlo hhi h0 h1 h2 (Nat.le_refl _)]
        rfl
  case call c =>
    have hres : ∀ (f : Operand), c.callee = .value f → ∀ g cv, a.eval f = .func (.func g) #[] cv → (resolve a.eval c o.type).run P w = .ok { target := .fn (.func g) cv, args := #[] ++ c.args.map a.eval } w := by
      intro f hc g cv hf'
      simp [resolve, hc, Deferred.ofValue, hf']
    have hresb : ∀ b, c.callee = .builtin b → ∃ cs, (resolve a.eval c o.type).run P w = .ok { target := .builtin b c.argTypes o.type cs, args := c.args.map a.eval } w := by
      intro b hc
      simp only [resolve, hc, Sem.run_pure]
      exact ⟨_, rfl⟩
    have hargs := args_at h c.args.toList
    split at he
    · rename_i hc
      obtain ⟨csb, hrb⟩ := hresb _ hc
      have one : ∀ {v : AV}, c.args.toList.map (val st) = [v] → ∃ u, c.args.map a.eval = #[u] ∧ VR P D R w v u := by
        intro v hv
        have hl : c.args.toList.length = 1 := by have := congrArg List.length hv; simpa using this
        match hcl : c.args.toList, hl with
        | [x], _ =>
          refine ⟨a.eval x, ?_, ?_⟩
          · apply Array.ext'
            simp [hcl]
          · rw [hcl] at hv
            simp only [List.map_cons, List.map_nil, List.cons.injEq, and_true] at hv
            rw [← hv]
            exact h.val x
      have hty : ∀ {d : TypeDesc}, (c.argTypes[0]?).bind P.underlying = some d → ∃ t, c.argTypes[0]? = some t ∧ P.underlying t = some d := by
        intro d hd
        cases ht : c.argTypes[0]? with
        | none => rw [ht] at hd; cases hd
        | some t => rw [ht] at hd; exact ⟨t, rfl, hd⟩
      split at he <;> first | (cases he; done) | skip
      · rename_i e es e2 hv hd'
        obtain ⟨u, hu1, hu2⟩ := one hv
        obtain ⟨t, ht, hut⟩ := hty hd'
        have : ∃ ad cc, u = .slice ad es.length cc ∧ es.length ≤ 9223372036854775807 := by
          cases hu2 with
          | rs0 => exact ⟨_, _, rfl, by simp⟩
          | rs _ _ _ _ _ h5 _ _ =>
            cases h5 with
            | sl h1 _ _ => exact ⟨_, _, rfl, h1⟩
        obtain ⟨ad, cc, rfl, hle⟩ := this
        refine op_value h hb hn hd (v' := .int .i64 es.length) ?_ (.i (by simp [IntKind.min, IntKind.signed, IntKind.bits] <;> omega) (by simp [IntKind.max, IntKind.signed, IntKind.bits] <;> omega)) he
        simp only [execOp, hop, Sem.run_bind, hrb, Result.andThen_ok, invoke, builtin, hu1]
        simp [Builtin.len_, ht, run_underlying' hut, goInt]
      · rename_i e2 hv hd'
        obtain ⟨u, hu1, hu2⟩ := one hv
        obtain ⟨t, ht, hut⟩ := hty hd'
        cases hu2
        refine op_value h hb hn hd (v' := .int .i64 0) ?_ (.i (by simp [IntKind.min, IntKind.signed, IntKind.bits]) (by simp [IntKind.max, IntKind.signed, IntKind.bits])) he
        simp only [execOp, hop, Sem.run_bind, hrb, Result.andThen_ok, invoke, builtin, hu1]
        simp [Builtin.len_, ht, run_underlying' hut, goInt]
      · rename_i id off m e2 hv hd'
        obtain ⟨u, hu1, hu2⟩ := one hv
        obtain ⟨t, ht, hut⟩ := hty hd'
        cases hu2 with
        | @sl _ _ _ b sz cc hR hle hle2 =>
          refine op_value h hb hn hd (v' := .int .i64 m) ?_ (.i (by simp [IntKind.min, IntKind.signed, IntKind.bits] <;> omega) (by simp [IntKind.max, IntKind.signed, IntKind.bits] <;> omega)) he
          simp only [execOp, hop, Sem.run_bind, hrb, Result.andThen_ok, invoke, builtin, hu1]
          simp [Builtin.len_, ht, run_underlying' hut, goInt]
      · rename_i s hv hd'
        obtain ⟨u, hu1, hu2⟩ := one hv
        obtain ⟨t, ht, hut⟩ := hty hd'
        obtain ⟨rfl, hsz⟩ := hu2.str_inv
        refine op_value h hb hn hd (v' := .int .i64 s.size) ?_ (.i (by simp [IntKind.min, IntKind.signed, IntKind.bits] <;> omega) (by simp [IntKind.max, IntKind.signed, IntKind.bits] <;> omega)) he
        simp only [execOp, hop, Sem.run_bind, hrb, Result.andThen_ok, invoke, builtin, hu1]
        simp [Builtin.len_, ht, run_underlying' hut, goInt]
    · rename_i hc
      exact minmax_sound (mx := true) h hb hn hd hop hc hresb he
    · rename_i hc
      exact minmax_sound (mx := false) h hb hn hd hop hc hresb he
    · rename_i f hc
      have hf' := h.val f
      generalize haf : a.eval f = fv at hf'
      split at he <;> first | (cases he; done) | skip
      rename_i g caps hv
      rw [hv] at hf'
      obtain ⟨hfree, he⟩ := cond_some he
      split at he <;> first | (cases he; done) | skip
      rename_i pre v hS
      obtain ⟨hpre, he⟩ := cond_some he
      obtain ⟨⟨fn, hfn, hname, hbody⟩, hcalls⟩ := hs _ _ _ _ hS hpre
      cases hf' with
      | @fn _ _ cv c1 c2 =>
        have hbody' : fn.body.isNone = false := by cases hb' : fn.body <;> simp_all
        have hrun : (execOp a.eval o).run P w = .ok (.enter g (#[] ++ c.args.map a.eval ++ cv)) w := by
          simp only [execOp, hop, Sem.run_bind, hres f hc g cv haf, Result.andThen_ok, invoke, callFunc, run_program, hfn, hname, hbody', Bool.false_eq_true, if_false, Sem.run_pure]
        have hlen : (fitArgs P c.argTypes.toList (c.args.toList.map (val st)) ++ caps).length = c.args.size + caps.length := by simp [fitArgs_length]
        have hC := hcalls D w (#[] ++ c.args.map a.eval ++ cv) h.lt (by simp [fitArgs_length, c1]) (fun k hk => by
          have hv1 : ∀ k, k < (fitArgs P c.argTypes.toList (c.args.toList.map (val st))).length → VR P D R w ((fitArgs P c.argTypes.toList (c.args.toList.map (val st))).getD k .u) ((c.args.toList.map a.eval).getD k undef) := by
            intro k hk
            rw [fitArgs_length] at hk
            exact fitArgs_at _ _ _ hargs k hk
          have := app_at (v1 := c.args.toList.map a.eval) (v2 := cv.toList) (by simp [fitArgs_length]) hv1 (fun k hk => by
            have := c2 k hk
            simpa [Array.getD_eq_getD_getElem?, List.getD_eq_getElem?_getD] using this) k hk
          have e : (#[] ++ c.args.map a.eval ++ cv).getD k undef = (c.args.toList.map a.eval ++ cv.toList).getD k undef := by
            rw [Array.getD_eq_getD_getElem?, List.getD_eq_getElem?_getD, ← Array.getElem?_toList]
            simp
          rw [e]
          exact (VR.free_any (nb := 0) (R' := none2) (fun _ h => absurd h (by omega)) this).1 (freeL_at hfree hk))
        refine wpIn_enter hd hrun hC ?_
        rintro e w' ⟨v', rfl, hv', hbw⟩
        refine ⟨v', rfl, ?_⟩
        have hv'' : VR P D R w' v v' := hv'.mono (fun id x e => by cases e) (fun b hlt hd => ⟨hd, rfl⟩)
        exact hn D R ⟨v, none⟩ v' w' ((h.world hbw).put hb hv'') ⟨fun _ _ => rfl, fun b hlt hd => ⟨hd, hbw.block b hlt⟩, fun b hd _ => hbw.block b (h.lt b hd)⟩ he
    · cases he
end Go.Ev
