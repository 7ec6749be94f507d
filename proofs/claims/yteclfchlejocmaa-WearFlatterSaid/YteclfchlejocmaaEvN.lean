/-
  The law WearRates returns true for every climate and all numbers, and leaves its arguments as they were. No conditions.
-/
import Derived.Test.YteclfchlejocmaaEvK
import Derived.OrdersIn
set_option linter.unusedVariables false
set_option linter.unusedSimpArgs false
namespace Go.Ev
open Go Go.RowKit

variable {P : Program} {w0 : Base} {X D : Nat → Prop} {R : Nat → Option (Nat × Nat)} {st : St} {a : Act} {w : World}
variable {ro : Option Nat} {n : Nat} {Q : Exit → Act → World → Prop} {ρ : Type} {S : Spec} {RO : Nat → Bool}

/-! ### The last of those that are something -/
def lastOf {β : Type} (f : Nat → Option β) : Nat → Option β
  | 0 => none
  | n + 1 => match f n with
    | some b => some b
    | none => lastOf f n
theorem lastOf_congr {β : Type} {f g : Nat → Option β} : ∀ {n : Nat}, (∀ i, i < n → f i = g i) → lastOf f n = lastOf g n
  | 0, _ => rfl
  | n + 1, h => by simp only [lastOf]; rw [h n (by omega), lastOf_congr fun i hi => h i (by omega)]
theorem lastOf_upto {β : Type} {f : Nat → Option β} {j : Nat} : ∀ {n : Nat}, j ≤ n → (∀ i, j ≤ i → i < n → f i = none) → lastOf f n = lastOf f j
  | 0, hj, _ => by have : j = 0 := by omega
                   rw [this]
  | n + 1, hj, h => by
    by_cases e : j = n + 1
    · rw [e]
    · simp only [lastOf]
      rw [h n (by omega) (by omega)]
      exact lastOf_upto (by omega) fun i h1 h2 => h i h1 (by omega)
theorem lastOf_at {β : Type} {f : Nat → Option β} {j n : Nat} {b : β} (hj : j < n) (hb : f j = some b) (h : ∀ i, j < i → i < n → f i = none) : lastOf f n = some b := by
  rw [lastOf_upto (j := j + 1) (by omega) fun i h1 h2 => h i (by omega) h2]
  simp [lastOf, hb]

/-! ### States that say the same -/
structure Eqv (s s' : St) : Prop where
  t : ∀ x, gt s.t x = gt s'.t x
  m : ∀ id, gm s.m id = gm s'.m id
  nx : s.nx = s'.nx
  nt : s.nt = s'.nt
theorem Eqv.refl (s : St) : Eqv s s := ⟨fun _ => rfl, fun _ => rfl, rfl, rfl⟩
theorem Eqv.trans {s s' s'' : St} (h : Eqv s s') (h' : Eqv s' s'') : Eqv s s'' := ⟨fun x => (h.t x).trans (h'.t x), fun x => (h.m x).trans (h'.m x), h.nx.trans h'.nx, h.nt.trans h'.nt⟩
theorem Eqv.symm {s s' : St} (h : Eqv s s') : Eqv s' s := ⟨fun x => (h.t x).symm, fun x => (h.m x).symm, h.nx.symm, h.nt.symm⟩
theorem Eqv.sr {s s' : St} (h : Eqv s s') (hs : SR P w0 X D R s a w) : SR P w0 X D R s' a w := by
  refine { hs with tmp := ?_, nt := ?_, mem := ?_, df := hs.df }
  · intro t; rw [← h.t]; exact hs.tmp t
  · rw [← h.nt]; exact hs.nt
  · intro id e es he; rw [← h.m] at he; exact hs.mem id e es he
theorem Eqv.val {s s' : St} (h : Eqv s s') (x : Operand) : val s x = val s' x := by cases x <;> simp [Ev.val, h.t]
theorem app_t (s : St) (d : Option Nat) (e : Eff) (x : Nat) : gt (s.app d e).t x = if d = some x then e.v else gt s.t x := by
  unfold St.app
  cases d with
  | none => cases hm : e.m <;> simp [St.put, St.mem]
  | some d =>
    cases hm : e.m <;> simp only [St.put, St.mem, gt_cons, Option.some.injEq, eq_comm]
theorem app_m (s : St) (d : Option Nat) (e : Eff) (id : Nat) : gm (s.app d e).m id = match e.m with | some (i, b) => if i = id then b else gm s.m id | none => gm s.m id := by
  unfold St.app
  cases hm : e.m with
  | none => cases d <;> simp [St.put]
  | some p => cases d <;> simp only [St.put, St.mem, gm_cons, eq_comm]
theorem Eqv.app {s s' : St} (h : Eqv s s') (d : Option Nat) (e : Eff) : Eqv (s.app d e) (s'.app d e) :=
  ⟨fun x => by rw [app_t, app_t, h.t], fun x => by rw [app_m, app_m, h.m], by rw [app_nx, app_nx]; exact h.nx, by rw [app_nt, app_nt]; exact h.nt⟩
theorem put_know {s : St} {t : Nat} {v : AV} (h : gt s.t t = v) : Eqv (s.put (some t) v) s :=
  ⟨fun x => by simp only [St.put, gt_cons]; split <;> simp_all, fun _ => rfl, rfl, rfl⟩

/-! ### What an operation does, told at its end -/
theorem cond_bind {α ρ : Type} (c : Bool) (x y : Option α) (K : α → Option ρ) : (cond c x y).bind K = cond c (x.bind K) (y.bind K) := by cases c <;> rfl
theorem binI_bind (op : BinOp) (k : IntKind) (x y : Int) (K : AV → Option ρ) : binI op k x y K = (binI op k x y some).bind K := by
  cases op <;> simp [binI, cond_bind]
theorem binS_bind (op : BinOp) (x y : ByteArray) (K : AV → Option ρ) : binS op x y K = (binS op x y some).bind K := by
  cases op <;> simp [binS, cond_bind]
theorem bin_bind (op : BinOp) (t : TypeId) (x y : AV) (K : AV → Option ρ) : bin P op t x y K = (bin P op t x y some).bind K := by
  unfold bin
  split
  · rw [cond_bind, ← binI_bind]; rfl
  · exact binS_bind ..
  · split <;> simp
  · split <;> simp [cond_bind]
  · rfl
theorem bin_bind' {α : Type} (op : BinOp) (t : TypeId) (x y : AV) (f : AV → α) (K : α → Option ρ) : bin P op t x y (fun v => K (f v)) = (bin P op t x y fun v => some (f v)).bind K := by
  rw [bin_bind, bin_bind (K := fun v => some (f v)), Option.bind_assoc]; rfl
theorem look_bind' {α : Type} (st : St) (t : TypeId) (x : AV) (f : AV → α) (K : α → Option ρ) : look P st t x (fun v => K (f v)) = (look P st t x fun v => some (f v)).bind K := by
  unfold look
  split
  · simp [cond_bind]
  · split <;> simp [cond_bind]
  · rfl
theorem fresh_bind (site : Nat) (dst : Option Nat) (t : TypeId) (cs : List AV) (K : Eff → Option ρ) : fresh P RO site dst t cs K = (fresh P RO site dst t cs some).bind K := by
  simp [fresh, cond_bind]
theorem freshRow_bind (site : Nat) (dst : Option Nat) (t : TypeId) (es : List (List AV)) (K : Eff → Option ρ) : freshRow P RO site dst t es K = (freshRow P RO site dst t es some).bind K := by
  simp [freshRow, cond_bind]
theorem evOp_bind (site : Nat) (o : Oper) (st : St) (K : Eff → Option ρ) : evOp P S RO site o st K = (evOp P S RO site o st some).bind K := by
  unfold evOp
  cases hop : o.op <;> simp only [bin_bind' (f := fun v => (⟨v, none⟩ : Eff)) (K := K), look_bind' (f := fun v => (⟨v, none⟩ : Eff)) (K := K), fresh_bind (K := K), freshRow_bind (K := K)] <;> (repeat' split) <;> (first | rfl | (simp [cond_bind]; done) | skip)

theorem bin_none {op : BinOp} {t : TypeId} {x y : AV} {e : Eff} (h : bin P op t x y (fun v => some ⟨v, none⟩) = some e) : e.m = none := by
  rw [bin_bind] at h
  obtain ⟨v, _, hv⟩ := Option.bind_eq_some_iff.1 h
  cases hv; rfl
theorem look_none {st : St} {t : TypeId} {x : AV} {e : Eff} (h : look P st t x (fun v => some ⟨v, none⟩) = some e) : e.m = none := by
  have := look_bind' (P := P) (f := id) (α := AV) (K := fun v => some (⟨v, none⟩ : Eff)) st t x
  simp only [id] at this
  rw [this] at h
  obtain ⟨v, _, hv⟩ := Option.bind_eq_some_iff.1 h
  cases hv; rfl
theorem fresh_eff {site : Nat} {dst : Option Nat} {t : TypeId} {cs : List AV} {e : Eff} (h : fresh P RO site dst t cs some = some e) : e.m = none ∨ ∃ b, e.m = some (site, b) := by
  unfold fresh at h
  obtain ⟨_, h⟩ := cond_some h
  cases hc : (dst.map RO).getD false <;> rw [hc] at h <;> cases h
  · exact .inr ⟨_, rfl⟩
  · exact .inl rfl
theorem cond2_none {c : Bool} {x y : AV} {e : Eff} (h : (bif c then some (⟨x, none⟩ : Eff) else some ⟨y, none⟩) = some e) : e.m = none := by
  cases c <;> (cases h; rfl)
theorem cond1_none {c : Bool} {x : AV} {e : Eff} (h : (bif c then none else some (⟨x, none⟩ : Eff)) = some e) : e.m = none := by
  cases c <;> (cases h; try rfl)
theorem freshRow_eff' {site : Nat} {dst : Option Nat} {t : TypeId} {es : List (List AV)} {e : Eff} {o : Oper} (hs : isStore o = false) (h : freshRow P RO site dst t es some = some e) :
    e.m = none ∨ (isStore o = false ∧ ∃ b, e.m = some (site, b)) ∨ (isStore o = true ∧ ∃ id b, acc o st = some id ∧ e.m = some (id, b)) := by
  unfold freshRow at h
  obtain ⟨_, h⟩ := cond_some h
  cases hc : (dst.map RO).getD false || es.isEmpty <;> rw [hc] at h <;> cases h
  · exact .inr (.inl ⟨hs, _, rfl⟩)
  · exact .inl rfl
theorem fresh_eff' {site : Nat} {dst : Option Nat} {t : TypeId} {cs : List AV} {e : Eff} {o : Oper} (hs : isStore o = false) (h : fresh P RO site dst t cs some = some e) :
    e.m = none ∨ (isStore o = false ∧ ∃ b, e.m = some (site, b)) ∨ (isStore o = true ∧ ∃ id b, acc o st = some id ∧ e.m = some (id, b)) :=
  (fresh_eff h).imp_right fun ⟨b, h⟩ => .inl ⟨hs, b, h⟩
theorem evOp_eff {site : Nat} {o : Oper} {st : St} {e : Eff} (h : evOp P S RO site o st some = some e) :
    e.m = none ∨ (isStore o = false ∧ ∃ b, e.m = some (site, b)) ∨ (isStore o = true ∧ ∃ id b, acc o st = some id ∧ e.m = some (id, b)) := by
  unfold evOp at h
  cases hop : o.op <;> simp only [hop] at h <;> (try (cases h; done)) <;> (repeat' split at h) <;>
    (first
      | (cases h; done) | (exfalso; injections; done) | (cases h; exact .inl rfl) | (exact .inl (bin_none h)) | (exact .inl (look_none h)) | (exact .inl (cond2_none h)) | (exact .inl (cond1_none h)) | (obtain ⟨_, h⟩ := cond_some h; cases h; exact .inl rfl)
      | (obtain ⟨_, h⟩ := cond_some h; obtain ⟨_, h⟩ := cond_some h; cases h; exact .inl rfl)
      | (obtain ⟨_, h⟩ := cond_some h; cases h; done)
      | (exact fresh_eff' (by simp [isStore, hop]) h)
      | (obtain ⟨_, h⟩ := cond_some h; (repeat' split at h) <;> first | (cases h; done) | exact freshRow_eff' (by simp [isStore, hop]) h)
      | (obtain ⟨_, h⟩ := cond_some h; cases h; exact .inr (.inr ⟨by simp [isStore, hop], _, _, by simp [acc, hop, *], rfl⟩))
      | (rename_i heq _ _ _ _ _; cases heq; done) | skip)
theorem look_congr {st st' : St} {t : TypeId} {x : AV} {K : AV → Option ρ} (h : ∀ id i j, x = .p id i j → gm st.m id = gm st'.m id) : look P st t x K = look P st' t x K := by
  unfold look
  cases x <;> try rfl
  rename_i id i j
  simp only [h id i j rfl]
theorem evOp_congr {site : Nat} {o : Oper} {st st' : St} {K : Eff → Option ρ} (hv : ∀ x, x ∈ o.op.operands → val st x = val st' x) (ha : ∀ id, acc o st = some id → gm st.m id = gm st'.m id) :
    evOp P S RO site o st K = evOp P S RO site o st' K := by
  have hargs : ∀ c : Call, o.op = .call c → c.args.toList.map (val st) = c.args.toList.map (val st') := fun c hc =>
    List.map_congr_left fun x hx => hv x (by rw [hc]; simp only [Op.operands, Call.operands]; exact Array.mem_append.2 (.inr (by simpa using hx)))
  unfold evOp
  cases hop : o.op <;> simp only [hop, Op.operands] at hv <;> simp only <;> (first | rfl | (simp [hv]; done) | skip)
  case build t parts =>
    have : List.map (fun p => (p.1, val st p.2)) parts.toList = List.map (fun p => (p.1, val st' p.2)) parts.toList :=
      List.map_congr_left fun p hp => by rw [hv p.2 (by simpa using ⟨p.1, by simpa using hp⟩)]
    rw [this]
  case buildSlice t n parts =>
    have : List.map (fun p => (p.1, val st p.2)) parts.toList = List.map (fun p => (p.1, val st' p.2)) parts.toList :=
      List.map_congr_left fun p hp => by rw [hv p.2 (by simpa using ⟨p.1, by simpa using hp⟩)]
    rw [this]
  case load t x =>
    rw [← hv x (by simp)]
    exact look_congr fun id i j e => ha id (by simp [acc, hop, e])
  case store t x v =>
    rw [← hv x (by simp), ← hv v (by simp)]
    have key : ∀ id i j, val st x = .p id i j → gm st.m id = gm st'.m id := fun id i j e => ha id (by simp [acc, hop, e])
    generalize val st x = vx at key
    cases fitCs (cts P t) (cellsOf (val st v)) with
    | none => cases vx <;> rfl
    | some cs => cases vx <;> first | rfl | simp only [key _ _ _ rfl]
  case unOp k t x =>
    cases k <;> simp only [hv x (by simp)]
  case indexAddr t x ix =>
    rw [← hv x (by simp), ← hv ix (by simp)]
    have key : ∀ id i j, val st x = .sl id i j → gm st.m id = gm st'.m id := fun id i j e => ha id (by simp [acc, hop, e])
    generalize val st x = vx at key
    generalize val st ix = vi
    cases P.underlying t with
    | none => rfl
    | some d => cases d <;> first | rfl | (cases vx <;> first | rfl | (cases vi <;> first | rfl | simp only [key _ _ _ rfl]))
  case slice t x l h m =>
    cases m with
    | some m => rfl
    | none =>
      have h1 : ∀ d, numOf st d l = numOf st' d l := fun d => by cases l <;> simp [numOf]; exact hv _ (by simp)
      have h2 : ∀ d, numOf st d h = numOf st' d h := fun d => by cases h <;> simp [numOf]; exact hv _ (by simp)
      simp only [hv x (by simp), h1, h2]
  case makeFunc f first caps =>
    cases f with
    | func f =>
      have : caps.toList.map (val st) = caps.toList.map (val st') := List.map_congr_left fun x hx => hv x (Array.mem_append.2 (.inr (by simpa using hx)))
      simp only [this]
    | _ => rfl
  case call c =>
    cases hc : c.callee with
    | value f =>
      have := hv f (by simp [Call.operands, hc])
      simp only [this, hargs c hop]
    | builtin b => cases b <;> simp only [hargs c hop]
    | invoke r m => rfl
end Go.Ev
