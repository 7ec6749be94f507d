/-
  The law WearRates returns true for every climate and all numbers, and leaves its arguments as they were. No conditions.
-/
import Derived.Test.YteclfchlejocmaaEvS
import Derived.RangeFuncNested
set_option linter.unusedVariables false
set_option linter.unusedSimpArgs false
namespace Go.Ev
open Go Go.RowKit

variable {P : Program} {w0 : Base} {X D : Nat → Prop} {R : Nat → Option (Nat × Nat)} {st : St} {a : Act} {w : World}
variable {ro : Option Nat} {n : Nat} {Q : Exit → Act → World → Prop} {ρ : Type} {S : Spec} {RO : Nat → Bool} {L : LSpec} 

theorem keepV_free (nb : Nat) (v : AV) : free P nb (keepV P nb v) = true ∧ (keepV P nb v = .u ∨ keepV P nb v = v) := by
  unfold keepV
  cases h : free P nb v <;> simp [h, free]
theorem keepB_row {nb : Nat} {b : Blk} {e : TypeId} {es : List (List AV)} (h : keepB P nb b = .row e es) : b = .row e es ∧ freeB P nb (.row e es) = true := by
  unfold keepB at h
  cases hf : freeB P nb b <;> rw [hf] at h
  · cases h
  · simp only [cond_true] at h
    subst h
    exact ⟨rfl, hf⟩
theorem gt_keep (f : Nat → AV) (keep : List Nat) (t : Nat) : gt (keep.map fun k => (k, f k)) t = .u ∨ gt (keep.map fun k => (k, f k)) t = f t := by
  induction keep with
  | nil => exact .inl rfl
  | cons k keep ih =>
    simp only [List.map_cons, gt_cons]
    by_cases e : t = k
    · subst e; exact .inr (by simp)
    · simp only [e, if_false]; exact ih
theorem gm_range (f : Nat → Blk) (nb id : Nat) : gm ((List.range nb).map fun id => (id, f id)) id = if id < nb then f id else .dead := by
  have : ∀ (ids : List Nat), gm (ids.map fun id => (id, f id)) id = if id ∈ ids then f id else .dead := by
    intro ids
    induction ids with
    | nil => simp [gm]
    | cons k ids ih =>
      simp only [List.map_cons, gm_cons]
      by_cases e : id = k
      · subst e; simp
      · simp [e, ih]
  rw [this]
  simp
/-- A row whose cells lead to no row that is given up. -/
theorem rows_keep {nb : Nat} {R' : Nat → Option (Nat × Nat)} (hR : ∀ id, id < nb → R' id = R id) {e : TypeId} {es : List (List AV)} (g6 : WT P (.sl e) (.rs e es)) (g3 : (cts P e).length = P.cellsOf e) (hfb : freeB P nb (.row e es) = true)
    {i j : Nat} (hi : i < es.length) (hj : j < P.cellsOf e) {v : Value} (q2 : VR P D R w ((es.getD i []).getD j .u) v) : VR P D R' w ((es.getD i []).getD j .u) v := by
  simp only [freeB, Bool.or_eq_true] at hfb
  obtain ⟨w1, w2, w3⟩ : es.length ≤ 9223372036854775807 ∧ (∀ x, x ∈ es → x.length = (cts P e).length) ∧ (∀ x, x ∈ es → ∀ j, j < x.length → WT P ((cts P e).getD j .oth) (x.getD j .u)) := by
    cases g6 with
    | sl a b c => exact ⟨a, b, c⟩
  have hx : es.getD i [] ∈ es := by simp [List.getD_eq_getElem?_getD, List.getElem?_eq_getElem hi]
  have hxl : j < (es.getD i []).length := by rw [w2 _ hx, g3]; exact hj
  rcases hfb with hfb | hfb
  · exact (VR.free_any hR q2).2 _ 7 (w3 _ hx j hxl) (noOth_cell hfb (by rw [g3]; exact hj))
  · exact (VR.free_any hR q2).1 (freeL_at (List.all_eq_true.1 hfb _ hx) hxl)

/-- What is kept at a loop's head is kept. -/
theorem norm_sound {keep : List Nat} {nb : Nat} {st' : St} (h : SR P w0 X D R st a w) (hn : norm P keep nb st = some st') :
    SR P w0 X D (fun id => if id < nb then R id else none) st' a w ∧ Fresh (fun id => if id < nb then R id else none) st'.nx ∧ st'.nx = nb ∧ st'.nt = st.nt := by
  unfold norm at hn
  obtain ⟨hc, hn⟩ := cond_some hn
  simp only [Option.some.injEq] at hn
  subst hn
  have hR : ∀ id, id < nb → (fun id => if id < nb then R id else none) id = R id := fun id hid => by simp [hid]
  have mono : ∀ {x : AV} {v : Value}, free P nb x = true → VR P D R w x v → VR P D (fun id => if id < nb then R id else none) w x v := fun hf hv => (VR.free_any hR hv).1 hf
  refine ⟨⟨fun t => ?_, h.nt, fun id e es he => ?_, fun id b s e => ?_, fun id id' b s s' e e' => ?_, h.X, h.lt, h.old, h.df⟩, fun id hid => by simp [show ¬ id < nb by simpa using hid], rfl, rfl⟩
  · rcases gt_keep (fun k => keepV P nb (gt st.t k)) keep t with e | e
    · rw [e]; exact .u
    · rw [e]
      obtain ⟨k1, k2⟩ := keepV_free (P := P) nb (gt st.t t)
      rcases k2 with k2 | k2
      · rw [k2]; exact .u
      · rw [k2] at k1 ⊢; exact mono k1 (h.tmp t)
  · simp only [gm_range] at he
    split at he
    · rename_i hlt
      obtain ⟨he, hfb⟩ := keepB_row he
      obtain ⟨b, cells, ty, g1, g2, g3, g4, g5, g6, g7⟩ := h.mem id e es he
      refine ⟨b, cells, ty, by simpa [hlt] using g1, g2, g3, g4, g5, g6, fun i j hi hj => ?_⟩
      obtain ⟨v, q1, q2⟩ := g7 i j hi hj
      exact ⟨v, q1, rows_keep hR g6 g3 hfb hi hj q2⟩
    · cases he
  · by_cases hid : id < nb
    · simp only [hid, if_true] at e; exact h.own id b s e
    · simp [hid] at e
  · by_cases hid : id < nb <;> by_cases hid' : id' < nb <;> simp only [hid, hid', if_true, if_false] at e e'
    · exact h.inj _ _ _ _ _ e e'
    · cases e'
    · cases e
    · cases e

def Ex.exit : Ex → Exit
  | .nrm => .normal
  | .ext id => .exit id
  | .ret => .ret

/-- One round, told at its end. -/
def round (P : Program) (S : Spec) (RO : Nat → Bool) (L : LSpec) (c : Code) (p : Pl) (keep : List Nat) (nb : Nat) (st : St) : Option (Ex × St) :=
  evC P S RO L c (false :: p) st fun e s => match norm P keep nb s with
    | some s' => some (e, s')
    | none => none
/-- What a loop comes to. -/
inductive LB (P : Program) (S : Spec) (RO : Nat → Bool) (L : LSpec) (c : Code) (p : Pl) (keep : List Nat) (nb : Nat) : St → Ex → St → Prop
  | stop {st : St} {e : Ex} {s : St} : round P S RO L c p keep nb st = some (e, s) → e ≠ .nrm → LB P S RO L c p keep nb st e s
  | more {st s1 : St} {e : Ex} {s : St} : round P S RO L c p keep nb st = some (.nrm, s1) → LB P S RO L c p keep nb s1 e s → LB P S RO L c p keep nb st e s
  | enter {st s1 : St} {e : Ex} {s : St} : norm P keep nb st = some s1 → LB P S RO L c p keep nb s1 e s → LB P S RO L c p keep nb st e s

mutual
/-- What is plain: a value alone. -/
def toV : AV → Value
  | .b x => .bool x
  | .i k n => .int k n
  | .s x => .string x
  | .agg cs => .agg (toVL cs).toArray
  | _ => undef
def toVL : List AV → List Value
  | [] => []
  | a :: r => toV a :: toVL r
end
mutual
def plain : AV → Bool
  | .b _ => true
  | .i k n => decide (k.min ≤ n) && decide (n ≤ k.max)
  | .s x => Nat.ble x.size 9223372036854775807
  | .agg cs => plainL cs
  | _ => false
def plainL : List AV → Bool
  | [] => true
  | a :: r => plain a && plainL r
end
/-- What a round keeps of the iterator's. -/
structure KpOf (Y : Nat → Prop) (W W' : World) : Prop where
  os : W'.os = W.os
  tape : W'.tape = W.tape
  output : W'.output = W.output
  size : W.heap.size ≤ W'.heap.size
  same : ∀ (k : Nat) (o : Obj), W.heap[k]? = some o → o.isCells = true → ¬ Y k → W'.heap[k]? = some o
def encV (x : List AV) : Array Value := (toVL x).toArray
/-- What an iterator hands its rounds, one by one. -/
structure SeqCon (P : Program) (g : FuncId) (caps : List AV) (xs : List (List AV)) : Prop where
  fn : ∃ fn, P.funcs[g]? = some fn ∧ (fn.name == "runtime.NumGoroutine") = false ∧ fn.body.isSome = true
  plain : ∀ x, x ∈ xs → plainL x = true
  seq : ∀ (Y : Nat → Prop) (n : Nat) (w : World) (lb : Array Value), (∀ b, Y b → b < w.heap.size) → lb.size = caps.length → (∀ k, k < caps.length → VR P Y none2 w (caps.getD k .u) (lb.getD k undef)) →
    ∀ (l : Nat) (J : Nat → World → Prop) (Jx : World → Prop),
      (∀ i W W', J i W → Below W.heap.size W W' → J i W') → (∀ W W', Jx W → Below W.heap.size W W' → Jx W') → J 0 w →
      (∀ i x W m, J i W → xs[i]? = some x → YieldAt (FW none) m P l (encV x) W fun e W' => (e = .returned (.bool true) ∧ J (i + 1) W' ∧ KpOf Y W W') ∨ (e = .returned (.bool false) ∧ Jx W')) →
      CallsIn (FW none) n P g (#[.func (.yield l) #[] #[]] ++ lb) w fun e W' => (∃ v, e = .returned v) ∧ (J xs.length W' ∨ Jx W')

def startR : List Nat → List AV → St → St
  | p :: ps, v :: x, st => startR ps x (st.put (some p) v)
  | _, _, st => st
/-- One round of a range over a function. -/
def roundF (P : Program) (S : Spec) (RO : Nat → Bool) (L : LSpec) (ps : List Nat) (assign body : Code) (p : Pl) (nb : Nat) (st : St) (x : List AV) : Option (Ex × St) :=
  evC P S RO L assign (false :: p) (startR ps x st) fun e s => match e with
    | .nrm => evC P S RO L body (true :: p) s fun e s => some (e, { st with m := (List.range nb).map fun id => (id, keepB P nb (gm s.m id)) })
    | _ => none
inductive Rounds (P : Program) (S : Spec) (RO : Nat → Bool) (L : LSpec) (ps : List Nat) (assign body : Code) (p : Pl) (nb : Nat) : St → List (List AV) → Ex → St → Prop
  | done {st : St} : Rounds P S RO L ps assign body p nb st [] .nrm st
  | go {st s1 : St} {x : List AV} {xs : List (List AV)} {e : Ex} {s : St} : roundF P S RO L ps assign body p nb st x = some (.nrm, s1) → Rounds P S RO L ps assign body p nb s1 xs e s → Rounds P S RO L ps assign body p nb st (x :: xs) e s
  | out {st : St} {x : List AV} {xs : List (List AV)} {e : Ex} {s : St} : roundF P S RO L ps assign body p nb st x = some (e, s) → e ≠ .nrm → Rounds P S RO L ps assign body p nb st (x :: xs) e s
/-- What a range over a function comes to. -/
def RB (P : Program) (S : Spec) (RO : Nat → Bool) (L : LSpec) (g : Operand) (ps : List Nat) (assign body : Code) (p : Pl) (keep : List Nat) (nb : Nat) (st : St) (e : Ex) (s : St) : Prop :=
  ∃ gf caps xs st1, val st g = .fn gf caps ∧ freeL P 0 caps = true ∧ SeqCon P gf caps xs ∧ (∀ x, x ∈ xs → x.length = ps.length) ∧ (∀ q, q ∈ ps → q < st.nt) ∧
    norm P keep nb st = some st1 ∧ Rounds P S RO L ps assign body p nb st1 xs e s

/-- The loops are what is said of them. -/
def LOK (P : Program) (S : Spec) (RO : Nat → Bool) (L : LSpec) : Nat → Bool → Code → Pl → Prop
  | lo, nr, .seq a b, p => LOK P S RO L lo nr a (false :: p) ∧ LOK P S RO L lo nr b (true :: p)
  | lo, nr, .cond _ a b, p => LOK P S RO L lo nr a (false :: p) ∧ LOK P S RO L lo nr b (true :: p)
  | lo, nr, .block _ c, p => LOK P S RO L lo nr c (false :: p)
  | lo, nr, .loop c, p => (∀ st e s, lo ≤ st.nx → L p st = some (true, e, s) → ∃ keep nb, lo ≤ nb ∧ LB P S RO L c p keep nb st e s) ∧ LOK P S RO L lo nr c (false :: p)
  | lo, nr, .rangeFunc g ps assign body, p => nr = false ∧ (∀ st e s, lo ≤ st.nx → L p st = some (true, e, s) → ∃ keep nb, lo ≤ nb ∧ RB P S RO L g ps.toList assign body p keep nb st e s) ∧ (∀ nb, LOK P S RO L nb true assign (false :: p)) ∧ ∀ nb, LOK P S RO L nb true body (true :: p)
  | _, _, _, _ => True

theorem loop_of {c : Code} (h : ∀ (b : Frame) (k : List Item) (cs : List Frame), b.roundOf = (FW ro).round → (FW ro).fn b.fn → (FW ro).room (cs.length + 1 + n) →
      ∃ e a' w', Q e a' w' ∧ ArrivesIn (Machine.fenced P (FW ro)) P (lone (b.atR a (.code c :: .inLoop c :: k)) cs w) b k cs e a' w') : (Code.loop c).wpIn (FW ro) n P Q a w := by
  intro b k cs hro hb hr
  obtain ⟨e, a', w', hq, harr⟩ := h b k cs hro hb hr
  exact ⟨e, a', w', hq, .of_steps (.one (fenced_calm hb hr rfl) stepR_loop) harr⟩
theorem of_loop {c : Code} (h : c.wpIn (FW ro) n P (Exit.then (fun a w => ∀ (b : Frame) (k : List Item) (cs : List Frame), b.roundOf = (FW ro).round → (FW ro).fn b.fn → (FW ro).room (cs.length + 1 + n) →
      ∃ e a' w', Q e a' w' ∧ ArrivesIn (Machine.fenced P (FW ro)) P (lone (b.atR a (.code c :: .inLoop c :: k)) cs w) b k cs e a' w') Q) a w) :
    ∀ (b : Frame) (k : List Item) (cs : List Frame), b.roundOf = (FW ro).round → (FW ro).fn b.fn → (FW ro).room (cs.length + 1 + n) →
      ∃ e a' w', Q e a' w' ∧ ArrivesIn (Machine.fenced P (FW ro)) P (lone (b.atR a (.code c :: .inLoop c :: k)) cs w) b k cs e a' w' := by
  intro b k cs hro hb hr
  obtain ⟨e, a₁, w₁, hq, harr⟩ := h b (.inLoop c :: k) cs hro hb hr
  cases e with
  | normal =>
    obtain ⟨e₂, a₂, w₂, hq₂, harr₂⟩ := hq b k cs hro hb hr
    exact ⟨e₂, a₂, w₂, hq₂, .of_steps (StepsIn.trans harr (.one (fenced_calm hb hr rfl) stepR_inLoop)) harr₂⟩
  | exit id => exact ⟨_, a₁, w₁, hq, .pass (x := .inLoop c) rfl (fun _ _ => .inl (by simp)) harr⟩
  | goto l => exact ⟨_, a₁, w₁, hq, .pass (x := .inLoop c) rfl (fun _ _ => .inl (by simp)) harr⟩
  | ret => exact ⟨_, a₁, w₁, hq, .pass (x := .inLoop c) rfl (fun _ _ => .inl (by simp)) harr⟩
  | panic ch => exact ⟨_, a₁, w₁, hq, .pass (x := .inLoop c) rfl (fun _ _ => .inl (by simp)) harr⟩
  | outgrown => exact ⟨_, a₁, w₁, hq, .pass (x := .inLoop c) rfl (fun _ _ => .inl (by simp)) harr⟩


theorem toVL_length : ∀ (l : List AV), (toVL l).length = l.length
  | [] => rfl
  | a :: r => by simp [toVL, toVL_length r]
theorem VR_toV_all : (∀ x : AV, plain x = true → VR P D R w x (toV x)) ∧ (∀ l : List AV, plainL l = true → ∀ k, k < l.length → VR P D R w (l.getD k .u) ((toVL l).getD k undef)) := by
  have key : ∀ (n : Nat), (∀ x : AV, SizeOf.sizeOf x < n → plain x = true → VR P D R w x (toV x)) ∧ (∀ l : List AV, SizeOf.sizeOf l < n → plainL l = true → ∀ k, k < l.length → VR P D R w (l.getD k .u) ((toVL l).getD k undef)) := by
    intro n
    induction n with
    | zero => exact ⟨fun x h => by omega, fun l h => by omega⟩
    | succ n ih =>
      refine ⟨fun x hs hp => ?_, fun l hs hp => ?_⟩
      · cases x <;> simp only [plain] at hp <;> try (cases hp; done)
        · exact .b
        · simp only [Bool.and_eq_true, decide_eq_true_eq] at hp
          exact .i hp.1 hp.2
        · exact .s (by simpa [Nat.ble_eq] using hp)
        · rename_i cs
          simp only [toV]
          refine .agg (by simp [toVL_length]) fun k hk => ?_
          have := ih.2 cs (by simp at hs; omega) hp k hk
          simpa [Array.getD_eq_getD_getElem?, List.getD_eq_getElem?_getD] using this
      · cases l with
        | nil => intro k hk; simp at hk
        | cons a r =>
          simp only [plainL, Bool.and_eq_true] at hp
          intro k hk
          cases k with
          | zero => simpa [toVL] using ih.1 a (by simp at hs; omega) hp.1
          | succ k => simpa [toVL] using ih.2 r (by simp at hs; omega) hp.2 k (by simpa using hk)
  exact ⟨fun x => (key (SizeOf.sizeOf x + 1)).1 x (by omega), fun l => (key (SizeOf.sizeOf l + 1)).2 l (by omega)⟩
end Go.Ev
