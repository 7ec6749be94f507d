/-
  The law WearRates returns true for every climate and all numbers, and leaves its arguments as they were. No conditions.
-/
import Derived.Test.YteclfchlejocmaaEvM
import Derived.Carry
import Derived.ChangeOld
import Derived.ChangeShapes
import Derived.OpenShut
set_option linter.unusedVariables false
set_option linter.unusedSimpArgs false
namespace Go.Ev
open Go Go.RowKit Go.ChangeShapes

variable {P : Program} {w : World} {H : Type} {enc : TypeId × Value → H} {base : Nat} {spare : Nat → Bool} {held : Bool}

/-- Types of plain values, and of slices of such. 'f': slices in slices; 'k': structs in structs. -/
def fieldsOK (ok : TypeId → Bool) (len : TypeId → Nat) : List Field → Nat → Bool
  | [], _ => true
  | fl :: fs, o => Nat.beq fl.offset o && (ok fl.type && (Nat.beq (P.cellsOf fl.type) (len fl.type) && fieldsOK ok len fs (o + P.cellsOf fl.type)))
def layK (ok : TypeId → Bool) : Nat → TypeId → Bool
  | 0, _ => false
  | k + 1, t => match P.underlying t with
    | some (.int _) => true
    | some .bool => true
    | some .string => true
    | some (.slice e) => ok e && okT P e
    | some (.struct fs) => fieldsOK (P := P) (layK ok k) (fun t => (ctsOf P k t).length) fs.toList 0
    | _ => false
def layOK (P : Program) : Nat → TypeId → Bool
  | 0, _ => false
  | f + 1, t => layK (P := P) (layOK P f) 8 t

theorem mapM_at {α β : Type} {f : α → Option β} : ∀ {l : List α} {xs : List β}, l.mapM f = some xs → xs.length = l.length ∧ ∀ (i : Nat) (x : α), l[i]? = some x → ∃ y, xs[i]? = some y ∧ f x = some y
  | [], xs, h => by
    simp at h
    subst h
    exact ⟨rfl, fun i x hx => by simp at hx⟩
  | a :: l, xs, h => by
    simp only [List.mapM_cons] at h
    cases h1 : f a with
    | none => simp [h1] at h
    | some y =>
      cases h2 : l.mapM f with
      | none => simp [h1, h2] at h
      | some ys =>
        simp [h1, h2] at h
        subst h
        obtain ⟨q1, q2⟩ := mapM_at h2
        refine ⟨by simp [q1], fun i x hx => ?_⟩
        cases i with
        | zero =>
          simp at hx
          subst hx
          exact ⟨y, rfl, h1⟩
        | succ i => simpa using q2 i x (by simpa using hx)

theorem choose_list {α : Type} (d : α) {p : Nat → α → Prop} : ∀ (n : Nat), (∀ i, i < n → ∃ a, p i a) → ∃ l : List α, l.length = n ∧ ∀ i, i < n → p i (l.getD i d)
  | 0, _ => ⟨[], rfl, fun i h => by omega⟩
  | n + 1, h => by
    obtain ⟨l, h1, h2⟩ := choose_list d n fun i hi => h i (by omega)
    obtain ⟨a, ha⟩ := h n (by omega)
    refine ⟨l ++ [a], by simp [h1], fun i hi => ?_⟩
    by_cases e : i = n
    · subst e
      have : (l ++ [a]).getD i d = a := by simp [List.getD_eq_getElem?_getD, ← h1]
      rw [this]; exact ha
    · have hlt : i < l.length := by omega
      have : (l ++ [a]).getD i d = l.getD i d := by simp [List.getD_eq_getElem?_getD, List.getElem?_append, hlt]
      rw [this]; exact h2 i (by omega)
theorem cell_plain {ad : Addr} {v : Value} (h : w.cell? ad = some v) : ad = ⟨ad.block, ad.off, none⟩ := by
  obtain ⟨b, o, s⟩ := ad
  cases s with
  | none => rfl
  | some s =>
    simp only [World.cell?] at h
    cases hb : w.heap[b]? with
    | none => simp [hb] at h
    | some o' => cases o' <;> simp [hb] at h

theorem fields_VR {X : Nat → Prop} {k : Nat} {ok : TypeId → Bool} {cs : List Value} {rd : TypeId → List Value → Option (DataW H × List MemPlace)}
    (ih : ∀ (t : TypeId) (cs' : List Value) (x : DataW H × List MemPlace), rd t cs' = some x → ok t = true → ∃ as : List AV, as.length = (ctsOf P k t).length ∧ WTs P (ctsOf P k t) as ∧ ∀ j, j < as.length → VR P X none2 w (as.getD j .u) (cs'.getD j undef)) :
    ∀ (fs : List Field) (o : Nat), fieldsOK (P := P) ok (fun t => (ctsOf P k t).length) fs o = true → (∀ fl, fl ∈ fs → ∃ x, rd fl.type ((cs.drop fl.offset).take (P.cellsOf fl.type)) = some x) →
      ∃ as : List AV, as.length = (fs.flatMap fun f => ctsOf P k f.type).length ∧ WTs P (fs.flatMap fun f => ctsOf P k f.type) as ∧ ∀ j, j < as.length → VR P X none2 w (as.getD j .u) (cs.getD (o + j) undef)
  | [], o, _, _ => ⟨[], rfl, ⟨rfl, fun j hj => by simp at hj⟩, fun j hj => by simp at hj⟩
  | fl :: fs, o, h, hr => by
    simp only [fieldsOK, Bool.and_eq_true] at h
    obtain ⟨h1, h2, h3, h4⟩ := h
    have h1 : fl.offset = o := Nat.eq_of_beq_eq_true h1
    have h3 : P.cellsOf fl.type = (ctsOf P k fl.type).length := Nat.eq_of_beq_eq_true h3
    obtain ⟨x, hx⟩ := hr fl (by simp)
    obtain ⟨a1, q1, q2, q3⟩ := ih _ _ _ hx h2
    obtain ⟨a2, r1, r2, r3⟩ := fields_VR ih fs (o + P.cellsOf fl.type) h4 fun f hf => hr f (by simp [hf])
    refine ⟨a1 ++ a2, by simp [q1, r1], ⟨by simp [q1, r1], fun j hj => ?_⟩, fun j hj => ?_⟩
    · by_cases hj1 : j < a1.length
      · have := q2.2 j hj1
        have hj2 : j < (ctsOf P k fl.type).length := by omega
        simpa [List.getD_eq_getElem?_getD, List.getElem?_append, hj1, hj2] using this
      · have := r2.2 (j - a1.length) (by simp at hj; omega)
        have hj2 : ¬ j < (ctsOf P k fl.type).length := by omega
        rw [q1] at this
        simpa [List.getD_eq_getElem?_getD, List.getElem?_append, hj1, hj2, q1] using this
    · by_cases hj1 : j < a1.length
      · have := q3 j hj1
        have hj2 : j < P.cellsOf fl.type := by omega
        rw [h1] at this
        simpa [List.getD_eq_getElem?_getD, List.getElem?_append, hj1, List.getElem?_take, hj2, List.getElem?_drop] using this
      · have := r3 (j - a1.length) (by simp at hj; omega)
        rw [show o + P.cellsOf fl.type + (j - a1.length) = o + j by omega] at this
        simpa [List.getD_eq_getElem?_getD, List.getElem?_append, hj1] using this
/-- What is read is a value. -/
theorem trod_VR {X : Nat → Prop} (hX : ∀ b, ¬ X b) : ∀ (n : Nat) (f k : Nat) (t : TypeId) (cs : List Value) (x : DataW H × List MemPlace), DataW.trod enc P w base spare held n t cs = some x → layK (P := P) (layOK P f) k t = true →
    ∃ as : List AV, as.length = (ctsOf P k t).length ∧ WTs P (ctsOf P k t) as ∧ ∀ j, j < as.length → VR P X none2 w (as.getD j .u) (cs.getD j undef)
  | 0, f, k, t, cs, x, h, _ => by simp [DataW.trod] at h
  | n + 1, f, 0, t, cs, x, h, hl => by simp [layK] at hl
  | n + 1, f, k + 1, t, cs, x, h, hl => by
    simp only [layK] at hl
    simp only [DataW.trod] at h
    have one : ∀ {c : CT} {a : AV} {v : Value}, WT P c a → VR P X none2 w a v → ∃ as : List AV, as.length = [c].length ∧ WTs P [c] as ∧ ∀ j, j < as.length → VR P X none2 w (as.getD j .u) ([v].getD j undef) := fun h1 h2 =>
      ⟨[_], rfl, ⟨rfl, fun j hj => by
        have : j = 0 := by simpa using hj
        subst this; simpa using h1⟩, fun j hj => by
        have : j = 0 := by simpa using hj
        subst this; simpa using h2⟩
    cases hu : P.underlying t with
    | none => rw [hu] at hl; cases hl
    | some td =>
      rw [hu] at hl h
      have hct : ctsOf P (k + 1) t = match td with
        | .int k => [.int k]
        | .bool => [.bool]
        | .string => [.str]
        | .slice e => [.sl e]
        | .struct fs => fs.toList.flatMap fun f => ctsOf P k f.type
        | .array n e => (List.replicate n (ctsOf P k e)).flatten
        | _ => [.oth] := by
        simp only [ctsOf, hu]
        cases td <;> rfl
      cases td <;> simp only at hl h hct <;> first | (cases hl; done) | skip
      case bool =>
        rw [hct]
        match cs, h with
        | [.bool b], h => exact one .bool .b
      case int kd =>
        rw [hct]
        match cs, h with
        | [.int k' z], h =>
          simp only at h
          split at h
          · rename_i hk
            obtain ⟨rfl, hw⟩ := hk
            simp only [Lit.wf, Bool.and_eq_true, decide_eq_true_eq] at hw
            exact one (.int hw.1 hw.2) (.i hw.1 hw.2)
          · cases h
      case string =>
        rw [hct]
        match cs, h with
        | [.string s], h =>
          simp only at h
          split at h
          · rename_i hk
            have : s.size ≤ 9223372036854775807 := by simpa [maxLen] using hk
            exact one (.str this) (.s this)
          · cases h
      case slice e =>
        rw [hct]
        simp only [Bool.and_eq_true] at hl
        obtain ⟨hle, ho⟩ := hl
        match cs, h with
        | [.slice none 0 0], h => exact one (a := .rs e []) (.sl (by simp) (by simp) (by simp)) .rs0
        | [.slice (some ad) len cap], h =>
          simp only at h
          split at h
          · rename_i hc
            obtain ⟨_, hlc, hcm⟩ := hc
            cases hm : (List.range len).mapM fun i => (w.cells? base (ad.add (i * P.cellsOf e)) (P.cellsOf e)).bind (DataW.trod enc P w base spare held n e) with
            | none => rw [hm] at h; simp at h
            | some elems =>
              obtain ⟨_, hat⟩ := mapM_at hm
              obtain ⟨hcl, hpos, _⟩ := okT_spec ho
              obtain ⟨f', rfl⟩ : ∃ f', f = f' + 1 := by
                cases f with
                | zero => simp [layOK] at hle
                | succ f' => exact ⟨f', rfl⟩
              have hel : ∀ i, i < len → ∃ q : List AV × List Value, q.1.length = P.cellsOf e ∧ WTs P (cts P e) q.1 ∧ (∀ j, j < P.cellsOf e → w.cell? ((ad.add (i * P.cellsOf e)).add j) = some (q.2.getD j undef)) ∧ ∀ j, j < P.cellsOf e → VR P X none2 w (q.1.getD j .u) (q.2.getD j undef) := by
                intro i hi
                obtain ⟨y, _, hy⟩ := hat i i (by simp [hi])
                obtain ⟨ci, hci, hti⟩ := Option.bind_eq_some_iff.1 hy
                obtain ⟨as, g1, g2, g3⟩ := trod_VR hX n f' 8 e ci y hti hle
                simp only [World.cells?] at hci
                split at hci
                · obtain ⟨c1, c2⟩ := mapM_at hci
                  have hl1 : as.length = P.cellsOf e := by rw [g1]; exact hcl
                  refine ⟨(as, ci), hl1, g2, fun j hj => ?_, fun j hj => g3 j (by omega)⟩
                  obtain ⟨v, v1, v2⟩ := c2 j j (by simp [hj])
                  rw [v2]
                  simp [List.getD_eq_getElem?_getD, v1]
                · cases hci
              cases len with
              | zero => exact one (a := .rs e []) (.sl (by simp) (by simp) (by simp)) .rs0
              | succ len =>
                obtain ⟨l, hl1, hl2⟩ := choose_list ([], []) _ hel
                have hpl : ad = ⟨ad.block, ad.off, none⟩ := by
                  have := (hl2 0 (by omega)).2.2.1 0 hpos
                  simp only [Nat.zero_mul] at this
                  have e0 : (ad.add 0).add 0 = ad := by simp [Addr.add]
                  rw [e0] at this
                  exact cell_plain this
                rw [hpl] at hl2 ⊢
                have hget : ∀ i, i < len + 1 → (l.map (·.1)).getD i [] = (l.getD i ([], [])).1 := fun i hi => by
                  have : i < l.length := by omega
                  simp [List.getD_eq_getElem?_getD, this]
                have hlm : (l.map (·.1)).length = len + 1 := by simp [hl1]
                have hmem : ∀ x, x ∈ l.map (·.1) → ∃ i, i < len + 1 ∧ x = (l.getD i ([], [])).1 := fun x hx => by
                  obtain ⟨i, hi, he⟩ := List.getElem_of_mem hx
                  exact ⟨i, by omega, by rw [← hget i (by omega), ← he]; simp [List.getD_eq_getElem?_getD, List.getElem?_eq_getElem hi]⟩
                have hWT : WT P (.sl e) (.rs e (l.map (·.1))) := .sl (by rw [hlm]; have h9 : cap ≤ 9223372036854775807 := hcm; omega) (fun x hx => by
                  obtain ⟨i, hi, rfl⟩ := hmem x hx
                  rw [(hl2 i hi).1, hcl]) (fun x hx j hj => by
                  obtain ⟨i, hi, rfl⟩ := hmem x hx
                  exact (hl2 i hi).2.1.2 j hj)
                have hVR : VR P X none2 w (.rs e (l.map (·.1))) (.slice (some ⟨ad.block, ad.off, none⟩) (l.map (·.1)).length cap) := by
                  refine .rs (f := fun i j => (l.getD i ([], [])).2.getD j undef) (fun h0 => by rw [h0] at hlm; simp at hlm) hpos (by rw [hlm]; exact hlc) hcl (hX _) hWT (fun i j hi hj => ?_) (fun i j hi hj => ?_)
                  · have := (hl2 i (by omega)).2.2.1 j hj
                    rw [add_plain', add_plain', Nat.add_assoc] at this
                    exact this
                  · rw [hget i (by omega)]
                    exact (hl2 i (by omega)).2.2.2 j hj
                rw [hlm] at hVR
                exact one hWT hVR
          · cases h
      case struct fs =>
        rw [hct]
        split at h
        · cases hm : fs.toList.mapM fun f => DataW.trod enc P w base spare held n f.type ((cs.drop f.offset).take (P.cellsOf f.type)) with
          | none => rw [hm] at h; simp at h
          | some xs =>
            obtain ⟨_, hat⟩ := mapM_at hm
            obtain ⟨as, q1, q2, q3⟩ := fields_VR (P := P) (w := w) (X := X) (k := k) (cs := cs) (rd := DataW.trod enc P w base spare held n) (fun t cs' x hx hok => trod_VR hX n f k t cs' x hx hok) fs.toList 0 hl (fun fl hfl => by
              obtain ⟨i, hi, he⟩ := List.getElem_of_mem hfl
              obtain ⟨y, _, hy⟩ := hat i fl (by rw [← he]; exact List.getElem?_eq_getElem hi)
              exact ⟨y, hy⟩)
            exact ⟨as, q1, q2, fun j hj => by simpa using q3 j hj⟩
        · cases h
end Go.Ev
