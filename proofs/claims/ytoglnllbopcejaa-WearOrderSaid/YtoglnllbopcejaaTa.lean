/-
  For every skin and at most 20 probes: the probes in another order make the same skin, if they make one; the law's guards are those of the given statement.
-/
import Derived.Test.YtoglnllbopcejaaPc
import Derived.Carry
import Derived.ChangeOld
import Derived.ChangeShapes
import Derived.OpenShut
import Derived.SizedLaws
set_option linter.unusedVariables false
set_option linter.unusedVariables false
set_option linter.unusedSimpArgs false
namespace Go.Ev
open Go Go.RowKit Go.ChangeShapes

variable {P : Program} {w : World} {H : Type} {enc : TypeId × Value → H} {base : Nat} {spare : Nat → Bool} {held : Bool}

def fieldsOK (ok : TypeId → Bool) (len : TypeId → Nat) : List Field → Nat → Bool
  | [], _ => true
  | fl :: fs, o => Nat.beq fl.offset o && (ok fl.type && (Nat.beq (P.cellsOf fl.type) (len fl.type) && fieldsOK ok len fs (o + P.cellsOf fl.type)))
def layK (ok : TypeId → Bool) : Nat → TypeId → Bool
  | 0, _ => false
  | k + 1, t => match P.underlying t with
    | some (.int _) => true
    | some .bool => true
    | some .string => true
    | some (.slice e) => ok e && okT P e
    | some (.struct fs) => fieldsOK (P := P) (layK ok k) (fun t => (ctsOf P k t).length) fs.toList 0
    | _ => false
def layOK (P : Program) : Nat → TypeId → Bool
  | 0, _ => false
  | f + 1, t => layK (P := P) (layOK P f) 8 t

theorem mapM_at {α β : Type} {f : α → Option β} : ∀ {l : List α} {xs : List β}, l.mapM f = some xs → xs.length = l.length ∧ ∀ (i : Nat) (x : α), l[i]? = some x → ∃ y, xs[i]? = some y ∧ f x = some y
  | [], xs, h => by
    simp at h
    subst h
    exact ⟨rfl, fun i x hx => by simp at hx⟩
  | a :: l, xs, h => by
    simp only [List.mapM_cons] at h
    cases h1 : f a with
    | none => simp [h1] at h
    | some y =>
      cases h2 : l.mapM f with
      | none => simp [h1, h2] at h
      | some ys =>
        simp [h1, h2] at h
        subst h
        obtain ⟨q1, q2⟩ := mapM_at h2
        refine ⟨by simp [q1], fun i x hx => ?_⟩
        cases i with
        | zero =>
          simp at hx
          subst hx
          exact ⟨y, rfl, h1⟩
        | succ i => simpa using q2 i x (by simpa using hx)

theorem choose_list {α : Type} (d : α) {p : Nat → α → Prop} : ∀ (n : Nat), (∀ i, i < n → ∃ a, p i a) → ∃ l : List α, l.length = n ∧ ∀ i, i < n → p i (l.getD i d)
  | 0, _ => ⟨[], rfl, fun i h => by omega⟩
  | n + 1, h => by
    obtain ⟨l, h1, h2⟩ := choose_list d n fun i hi => h i (by omega)
    obtain ⟨a, ha⟩ := h n (by omega)
    refine ⟨l ++ [a], by simp [h1], fun i hi => ?_⟩
    by_cases e : i = n
    · subst e
      have : (l ++ [a]).getD i d = a := by simp [List.getD_eq_getElem?_getD, ← h1]
      rw [this]; exact ha
    · have hlt : i < l.length := by omega
      have : (l ++ [a]).getD i d = l.getD i d := by simp [List.getD_eq_getElem?_getD, List.getElem?_append, hlt]
      rw [this]; exact h2 i (by omega)
theorem cell_plain {ad : Addr} {v : Value} (h : w.cell? ad = some v) : ad = ⟨ad.block, ad.off, none⟩ := by
  obtain ⟨b, o, s⟩ := ad
  cases s with
  | none => rfl
  | some s =>
    simp only [World.cell?] at h
    cases hb : w.heap[b]? with
    | none => simp [hb] at h
    | some o' => cases o' <;> simp [hb] at h

theorem fields_VR {X : Nat → Nat → Prop} {k : Nat} {ok : TypeId → Bool} {cs : List Value} {rd : TypeId → List Value → Option (DataW H × List MemPlace)}
    (ih : ∀ (t : TypeId) (cs' : List Value) (x : DataW H × List MemPlace), rd t cs' = some x → ok t = true → ∃ as : List AV, as.length = (ctsOf P k t).length ∧ WTs P (ctsOf P k t) as ∧ ∀ j, j < as.length → VR P X none2 w (as.getD j .u) (cs'.getD j undef)) :
    ∀ (fs : List Field) (o : Nat), fieldsOK (P := P) ok (fun t => (ctsOf P k t).length) fs o = true → (∀ fl, fl ∈ fs → ∃ x, rd fl.type ((cs.drop fl.offset).take (P.cellsOf fl.type)) = some x) →
      ∃ as : List AV, as.length = (fs.flatMap fun f => ctsOf P k f.type).length ∧ WTs P (fs.flatMap fun f => ctsOf P k f.type) as ∧ ∀ j, j < as.length → VR P X none2 w (as.getD j .u) (cs.getD (o + j) undef)
  | [], o, _, _ => ⟨[], rfl, ⟨rfl, fun j hj => by simp at hj⟩, fun j hj => by simp at hj⟩
  | fl :: fs, o, h, hr => by
    simp only [fieldsOK, Bool.and_eq_true] at h
    obtain ⟨h1, h2, h3, h4⟩ := h
    have h1 : fl.offset = o := Nat.eq_of_beq_eq_true h1
    have h3 : P.cellsOf fl.type = (ctsOf P k fl.type).length := Nat.eq_of_beq_eq_true h3
    obtain ⟨x, hx⟩ := hr fl (by simp)
    obtain ⟨a1, q1, q2, q3⟩ := ih _ _ _ hx h2
    obtain ⟨a2, r1, r2, r3⟩ := fields_VR ih fs (o + P.cellsOf fl.type) h4 fun f hf => hr f (by simp [hf])
    refine ⟨a1 ++ a2, by simp [q1, r1], ⟨by simp [q1, r1], fun j hj => ?_⟩, fun j hj => ?_⟩
    · by_cases hj1 : j < a1.length
      · have := q2.2 j hj1
        have hj2 : j < (ctsOf P k fl.type).length := by omega
        simpa [List.getD_eq_getElem?_getD, List.getElem?_append, hj1, hj2] using this
      · have := r2.2 (j - a1.length) (by simp at hj; omega)
        have hj2 : ¬ j < (ctsOf P k fl.type).length := by omega
        rw [q1] at this
        simpa [List.getD_eq_getElem?_getD, List.getElem?_append, hj1, hj2, q1] using this
    · by_cases hj1 : j < a1.length
      · have := q3 j hj1
        have hj2 : j < P.cellsOf fl.type := by omega
        rw [h1] at this
        simpa [List.getD_eq_getElem?_getD, List.getElem?_append, hj1, List.getElem?_take, hj2, List.getElem?_drop] using this
      · have := r3 (j - a1.length) (by simp at hj; omega)
        rw [show o + P.cellsOf fl.type + (j - a1.length) = o + j by omega] at this
        simpa [List.getD_eq_getElem?_getD, List.getElem?_append, hj1] using this
theorem trod_VR {X : Nat → Nat → Prop} (hX : ∀ b o, ¬ X b o) : ∀ (n : Nat) (f k : Nat) (t : TypeId) (cs : List Value) (x : DataW H × List MemPlace), DataW.trod enc P w base spare held n t cs = some x → layK (P := P) (layOK P f) k t = true →
    ∃ as : List AV, as.length = (ctsOf P k t).length ∧ WTs P (ctsOf P k t) as ∧ ∀ j, j < as.length → VR P X none2 w (as.getD j .u) (cs.getD j undef)
  | 0, f, k, t, cs, x, h, _ => by simp [DataW.trod] at h
  | n + 1, f, 0, t, cs, x, h, hl => by simp [layK] at hl
  | n + 1, f, k + 1, t, cs, x, h, hl => by
    simp only [layK] at hl
    simp only [DataW.trod] at h
    have one : ∀ {c : CT} {a : AV} {v : Value}, WT P c a → VR P X none2 w a v → ∃ as : List AV, as.length = [c].length ∧ WTs P [c] as ∧ ∀ j, j < as.length → VR P X none2 w (as.getD j .u) ([v].getD j undef) := fun h1 h2 =>
      ⟨[_], rfl, ⟨rfl, fun j hj => by
        have : j = 0 := by simpa using hj
        subst this; simpa using h1⟩, fun j hj => by
        have : j = 0 := by simpa using hj
        subst this; simpa using h2⟩
    cases hu : P.underlying t with
    | none => rw [hu] at hl; cases hl
    | some td =>
      rw [hu] at hl h
      have hct : ctsOf P (k + 1) t = match td with
        | .int k => [.int k]
        | .bool => [.bool]
        | .string => [.str]
        | .slice e => [.sl e]
        | .struct fs => fs.toList.flatMap fun f => ctsOf P k f.type
        | .array n e => (List.replicate n (ctsOf P k e)).flatten
        | _ => [.oth] := by
        simp only [ctsOf, hu]
        cases td <;> rfl
      cases td <;> simp only at hl h hct <;> first | (cases hl; done) | skip
      case bool =>
        rw [hct]
        match cs, h with
        | [.bool b], h => exact one .bool .b
      case int kd =>
        rw [hct]
        match cs, h with
        | [.int k' z], h =>
          simp only at h
          split at h
          · rename_i hk
            obtain ⟨rfl, hw⟩ := hk
            simp only [Lit.wf, Bool.and_eq_true, decide_eq_true_eq] at hw
            exact one (.int hw.1 hw.2) (.i hw.1 hw.2)
          · cases h
      case string =>
        rw [hct]
        match cs, h with
        | [.string s], h =>
          simp only at h
          split at h
          · rename_i hk
            have : s.size ≤ 9223372036854775807 := by simpa [maxLen] using hk
            exact one (.str this) (.s this)
          · cases h
      case slice e =>
        rw [hct]
        simp only [Bool.and_eq_true] at hl
        obtain ⟨hle, ho⟩ := hl
        match cs, h with
        | [.slice none 0 0], h => exact one (a := .rs e []) (.sl (by simp) (by simp) (by simp)) (.rs0 fun _ => rfl)
        | [.slice (some ad) len cap], h =>
          simp only at h
          split at h
          · rename_i hc
            obtain ⟨_, hlc, hcm⟩ := hc
            cases hm : (List.range len).mapM fun i => (w.cells? base (ad.add (i * P.cellsOf e)) (P.cellsOf e)).bind (DataW.trod enc P w base spare held n e) with
            | none => rw [hm] at h; simp at h
            | some elems =>
              obtain ⟨_, hat⟩ := mapM_at hm
              obtain ⟨hcl, hpos, _⟩ := okT_spec ho
              obtain ⟨f', rfl⟩ : ∃ f', f = f' + 1 := by
                cases f with
                | zero => simp [layOK] at hle
                | succ f' => exact ⟨f', rfl⟩
              have hel : ∀ i, i < len → ∃ q : List AV × List Value, q.1.length = P.cellsOf e ∧ WTs P (cts P e) q.1 ∧ (∀ j, j < P.cellsOf e → w.cell? ((ad.add (i * P.cellsOf e)).add j) = some (q.2.getD j undef)) ∧ ∀ j, j < P.cellsOf e → VR P X none2 w (q.1.getD j .u) (q.2.getD j undef) := by
                intro i hi
                obtain ⟨y, _, hy⟩ := hat i i (by simp [hi])
                obtain ⟨ci, hci, hti⟩ := Option.bind_eq_some_iff.1 hy
                obtain ⟨as, g1, g2, g3⟩ := trod_VR hX n f' 8 e ci y hti hle
                simp only [World.cells?] at hci
                split at hci
                · obtain ⟨c1, c2⟩ := mapM_at hci
                  have hl1 : as.length = P.cellsOf e := by rw [g1]; exact hcl
                  refine ⟨(as, ci), hl1, g2, fun j hj => ?_, fun j hj => g3 j (by omega)⟩
                  obtain ⟨v, v1, v2⟩ := c2 j j (by simp [hj])
                  rw [v2]
                  simp [List.getD_eq_getElem?_getD, v1]
                · cases hci
              cases len with
              | zero => exact one (a := .rs e []) (.sl (by simp) (by simp) (by simp)) (.rs0 fun h => by cases h)
              | succ len =>
                obtain ⟨l, hl1, hl2⟩ := choose_list ([], []) _ hel
                have hpl : ad = ⟨ad.block, ad.off, none⟩ := by
                  have := (hl2 0 (by omega)).2.2.1 0 hpos
                  simp only [Nat.zero_mul] at this
                  have e0 : (ad.add 0).add 0 = ad := by simp [Addr.add]
                  rw [e0] at this
                  exact cell_plain this
                rw [hpl] at hl2 ⊢
                have hget : ∀ i, i < len + 1 → (l.map (·.1)).getD i [] = (l.getD i ([], [])).1 := fun i hi => by
                  have : i < l.length := by omega
                  simp [List.getD_eq_getElem?_getD, this]
                have hlm : (l.map (·.1)).length = len + 1 := by simp [hl1]
                have hmem : ∀ x, x ∈ l.map (·.1) → ∃ i, i < len + 1 ∧ x = (l.getD i ([], [])).1 := fun x hx => by
                  obtain ⟨i, hi, he⟩ := List.getElem_of_mem hx
                  exact ⟨i, by omega, by rw [← hget i (by omega), ← he]; simp [List.getD_eq_getElem?_getD, List.getElem?_eq_getElem hi]⟩
                have hWT : WT P (.sl e) (.rs e (l.map (·.1))) := .sl (by rw [hlm]; have h9 : cap ≤ 9223372036854775807 := hcm; omega) (fun x hx => by
                  obtain ⟨i, hi, rfl⟩ := hmem x hx
                  rw [(hl2 i hi).1, hcl]) (fun x hx j hj => by
                  obtain ⟨i, hi, rfl⟩ := hmem x hx
                  exact (hl2 i hi).2.1.2 j hj)
                have hVR : VR P X none2 w (.rs e (l.map (·.1))) (.slice (some ⟨ad.block, ad.off, none⟩) (l.map (·.1)).length cap) := by
                  refine .rs (f := fun i j => (l.getD i ([], [])).2.getD j undef) (fun h0 => by rw [h0] at hlm; simp at hlm) hpos (by rw [hlm]; exact hlc) hcl (fun _ _ _ _ => hX _ _) hWT (fun i j hi hj => ?_) (fun i j hi hj => ?_)
                  · have := (hl2 i (by omega)).2.2.1 j hj
                    rw [add_plain', add_plain', Nat.add_assoc] at this
                    exact this
                  · rw [hget i (by omega)]
                    exact (hl2 i (by omega)).2.2.2 j hj
                rw [hlm] at hVR
                exact one hWT hVR
          · cases h
      case struct fs =>
        rw [hct]
        split at h
        · cases hm : fs.toList.mapM fun f => DataW.trod enc P w base spare held n f.type ((cs.drop f.offset).take (P.cellsOf f.type)) with
          | none => rw [hm] at h; simp at h
          | some xs =>
            obtain ⟨_, hat⟩ := mapM_at hm
            obtain ⟨as, q1, q2, q3⟩ := fields_VR (P := P) (w := w) (X := X) (k := k) (cs := cs) (rd := DataW.trod enc P w base spare held n) (fun t cs' x hx hok => trod_VR hX n f k t cs' x hx hok) fs.toList 0 hl (fun fl hfl => by
              obtain ⟨i, hi, he⟩ := List.getElem_of_mem hfl
              obtain ⟨y, _, hy⟩ := hat i fl (by rw [← he]; exact List.getElem?_eq_getElem hi)
              exact ⟨y, hy⟩)
            exact ⟨as, q1, q2, fun j hj => by simpa using q3 j hj⟩
        · cases h
end Go.Ev

set_option linter.unusedVariables false
set_option linter.unusedSimpArgs false
namespace Go.Ev
open Go Go.RowKit Go.ChangeShapes

variable {P : Program} {W W' : World} {H : Type} {enc : TypeId × Value → H}

def TyArg (P : Program) (t : TypeId) (av : AV) : Prop :=
  (isAgg P t = true ∧ ∃ as, av = .agg as ∧ WTs P (cts P t) as) ∨ (isAgg P t = false ∧ WT P ((cts P t).headD .oth) av)
def TyArgs (P : Program) : List TypeId → List AV → Prop
  | [], [] => True
  | t :: ts, a :: as => TyArg P t a ∧ TyArgs P ts as
  | _, _ => False

theorem arg_VR {t : TypeId} {v : Value} {d : DataW H} {p : List MemPlace} {b0 : Nat} {spare : Nat → Bool} {held : Bool} {base : Nat} {r : Reach} (hl : layOK P 4 t = true) (ho : okT P t = true) (hv : Value.okWide P W r b0 t v) (h : DataW.Trod enc P W base spare held t v d p) :
    ∃ av, TyArg P t av ∧ VR P (fun _ _ => False) none2 W av v := by
  obtain ⟨n, hn⟩ := h
  obtain ⟨as, h1, h2, h3⟩ := trod_VR (X := fun _ _ => False) (fun _ _ h => h) n 3 8 t v.cells.toList (d, p) hn hl
  obtain ⟨o1, o2, o3⟩ := okT_spec ho
  have hcl : (ctsOf P 8 t).length = P.cellsOf t := o1
  unfold Value.okWide at hv
  cases hA : isAgg P t with
  | true =>
    have : ∃ cs, v = .agg cs ∧ cs.size = P.cellsOf t := by
      unfold isAgg at hA
      cases hu : P.underlying t with
      | none => rw [hu] at hA; cases hA
      | some td =>
        rw [hu] at hA hv
        cases td <;> simp only at hA hv <;> first | (cases hA; done) | (obtain ⟨cs, g1, g2, _⟩ := hv; exact ⟨cs, g1, g2⟩)
    obtain ⟨cs, rfl, hs⟩ := this
    refine ⟨.agg as, .inl ⟨hA, as, rfl, h2⟩, .agg (by omega) fun k hk => ?_⟩
    have := h3 k hk
    simpa [Value.cells, List.getD_eq_getElem?_getD, Array.getD_eq_getD_getElem?] using this
  | false =>
    have hne : ∀ cs, v ≠ .agg cs := by
      intro cs e
      subst e
      unfold isAgg at hA
      cases hu : P.underlying t with
      | none => rw [hu] at hv; simp [Cell.okWide, Cell.ok, hu] at hv
      | some td =>
        rw [hu] at hA hv
        cases td <;> simp only at hA hv <;> first | (cases hA; done) | (simp [Cell.okWide, Cell.ok, hu] at hv; done)
    have hone : v.cells = #[v] := by cases v <;> first | rfl | exact absurd rfl (hne _)
    have h1' : as.length = 1 := by rw [h1]; exact o3 hA
    refine ⟨as.getD 0 .u, .inr ⟨hA, ?_⟩, ?_⟩
    · have := h2.2 0 (by omega)
      have e : (ctsOf P 8 t).getD 0 .oth = (cts P t).headD .oth := by
        show (cts P t).getD 0 .oth = _
        cases cts P t <;> rfl
      rw [← e]; exact this
    · have := h3 0 (by omega)
      rw [hone] at this
      simpa using this

theorem trodAll_VR {b0 : Nat} {spare : Nat → Bool} {held : Bool} {base : Nat} {r : Reach} : ∀ {ts : List TypeId} {vs : List Value} {ds : List (DataW H)} {p : List MemPlace}, ts.all (fun t => layOK P 4 t && okT P t) = true →
    (∀ (j : Nat) t v, ts[j]? = some t → vs[j]? = some v → Value.okWide P W r b0 t v) → DataW.TrodAll enc P W base spare held ts vs ds p →
    ∃ avs, TyArgs P ts avs ∧ avs.length = vs.length ∧ ∀ k, k < avs.length → VR P (fun _ _ => False) none2 W (avs.getD k .u) (vs.getD k undef)
  | [], vs, ds, p, _, _, h => by
    obtain ⟨rfl, rfl, rfl⟩ := trodAll_nil h
    exact ⟨[], trivial, rfl, fun k hk => by simp at hk⟩
  | t :: ts, vs, ds, p, hl, hv, h => by
    obtain ⟨v, vs', d, ds', p1, q1, rfl, rfl, rfl, h1, h2⟩ := trodAll_cons h
    simp only [List.all_cons, Bool.and_eq_true] at hl
    obtain ⟨av, g1, g2⟩ := arg_VR hl.1.1 hl.1.2 (hv 0 t v rfl rfl) h1
    obtain ⟨avs, q1, q2, q3⟩ := trodAll_VR hl.2 (fun j t v ht hvj => hv (j + 1) t v (by simpa using ht) (by simpa using hvj)) h2
    refine ⟨av :: avs, ⟨g1, q1⟩, by simp [q2], fun k hk => ?_⟩
    cases k with
    | zero => simpa using g2
    | succ k => simpa using q3 k (by simpa using hk)

theorem trodAll_below (hl : laidOutB P = true) : ∀ {ts : List TypeId} {vs : List Value} {ds : List (DataW H)} {p : List MemPlace}, ts.all (fun t => P.readableRec t && Nat.blt t P.types.size) = true →
    DataW.TrodAll enc P W 0 (fun _ => true) true ts vs ds p → Below W.heap.size W W' → DataW.TrodAll enc P W' 0 (fun b => decide (b < W.heap.size)) true ts vs ds p
  | [], vs, ds, p, _, h, _ => by
    obtain ⟨rfl, rfl, rfl⟩ := trodAll_nil h
    exact trodAll_mk0
  | t :: ts, vs, ds, p, hr, h, hb => by
    obtain ⟨v, vs', d, ds', p1, q1, rfl, rfl, rfl, h1, h2⟩ := trodAll_cons h
    simp only [List.all_cons, Bool.and_eq_true] at hr
    refine trodAll_cons_mk (Below.trod hl hr.1.1 (by simpa [Nat.blt_eq] using hr.1.2) h1 hb ?_) (trodAll_below hl hr.2 h2 hb)
    obtain ⟨n, hn⟩ := h1
    exact DataW.trod_lt n t v.cells.toList _ hn

theorem trodAll_len {b : Nat} {spare : Nat → Bool} {held : Bool} : ∀ {ts : List TypeId} {vs : List Value} {ds : List (DataW H)} {p : List MemPlace}, DataW.TrodAll enc P W b spare held ts vs ds p → vs.length = ts.length ∧ ds.length = ts.length
  | [], vs, ds, p, h => by
    obtain ⟨rfl, rfl, rfl⟩ := trodAll_nil h
    exact ⟨rfl, rfl⟩
  | t :: ts, vs, ds, p, h => by
    obtain ⟨v, vs', d, ds', p1, q1, rfl, rfl, rfl, h1, h2⟩ := trodAll_cons h
    obtain ⟨g1, g2⟩ := trodAll_len h2
    exact ⟨by simp [g1], by simp [g2]⟩
theorem law_calls {f : FuncId} {fn : Func} {args : Array Value} {b0 : Nat} {spare : Nat → Bool} {held : Bool} {base : Nat} {r : Reach} {ds : List (DataW H)} {p : List MemPlace} {ts : List TypeId} (hts : fn.params.toList = ts) (hl : ts.all (fun t => layOK P 4 t && okT P t) = true)
    (law : ∀ avs, TyArgs P ts avs → Con P f avs [] (.b true) [])
    (hval : ∀ (j : Nat) t v, fn.params[j]? = some t → args[j]? = some v → Value.okWide P W r b0 t v) (hA : DataW.TrodAll enc P W base spare held ts args.toList ds p) :
    Calls P f args W fun e W' => e = .returned (.bool true) ∧ Below W.heap.size W W' := by
  obtain ⟨avs, h1, h2, h3⟩ := trodAll_VR hl (fun j t v ht hv => hval j t v (by rw [← hts] at ht; simpa using ht) (by simpa using hv)) hA
  refine ((law avs h1).plain (fun _ _ => False) W args (fun b o h => h.elim) (by simpa using h2.symm) fun k hk => ?_).mono ?_
  · have := h3 k hk
    simpa [List.getD_eq_getElem?_getD, Array.getD_eq_getD_getElem?] using this
  · rintro e w' ⟨v', rfl, hv, hb⟩
    rw [hv.bool_inv]
    exact ⟨rfl, hb⟩
end Go.Ev
