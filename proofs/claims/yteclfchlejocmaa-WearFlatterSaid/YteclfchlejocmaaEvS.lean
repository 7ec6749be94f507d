/-
  The law WearRates returns true for every climate and all numbers, and leaves its arguments as they were. No conditions.
-/
import Derived.Test.YteclfchlejocmaaEvR
set_option linter.unusedVariables false
set_option linter.unusedSimpArgs false
namespace Go.Ev
open Go Go.RowKit

variable {P : Program} {w0 : Base} {X D : Nat → Prop} {R : Nat → Option (Nat × Nat)} {st : St} {a : Act} {w : World}
variable {ro : Option Nat} {n : Nat} {Q : Exit → Act → World → Prop} {ρ : Type} {S : Spec} {RO : Nat → Bool}

theorem count_set' : ∀ {l : List Bool} {i : Nat}, l[i]? = some false → (l.set i true).count false + 1 = l.count false
  | [], i, h => by simp at h
  | b :: l, 0, h => by
    simp at h
    subst h
    simp
  | b :: l, i + 1, h => by
    simp only [List.getElem?_cons_succ] at h
    have := count_set' h
    simp only [List.set_cons_succ, List.count_cons]
    omega
theorem countA {A : Array Bool} {i : Nat} (h : A[i]? = some false) : (A.setIfInBounds i true).toList.count false + 1 = A.toList.count false := by
  rw [Array.toList_setIfInBounds]
  exact count_set' (by simpa using h)

/-- Nothing is ready: all is listed. -/
theorem all_listed {ops : Array Oper} (hrow : ∀ k o, ops[k]? = some o → (befs ops).getD k 0 = befRow (befs ops) o ∧ (befs ops).getD k 0 < 2 ^ k) {listed : Array Bool} (hsz : listed.size = ops.size) (hr : Region.ready .any ops listed = []) :
    ∀ i, i < ops.size → listed.getD i false = true := by
  intro i
  induction i using Nat.strongRecOn with
  | ind i ih =>
    intro hi
    cases hv : listed.getD i false with
    | true => rfl
    | false =>
      exfalso
      have hi' : i < listed.size := by omega
      have hv' : listed.getD i true = false := by
        simp [Array.getD_eq_getD_getElem?, hi'] at hv ⊢
        exact hv
      have ho : ops[i]? = some ops[i] := by simp
      have : i ∈ Region.ready .any ops listed := by
        rw [mem_ready]
        refine ⟨hv', _, ho, fun e he hb => ?_⟩
        have hb' : bef ops i e.on := by
          unfold bef
          rw [(hrow i _ ho).1]
          unfold befRow
          have : ∀ (l : List Edge) (m : Nat), (Nat.testBit m e.on = true ∨ e ∈ l) → Nat.testBit (l.foldl (fun m e => cond (Region.binds .any e) ((m ||| (2 ^ e.on)) ||| (befs ops).getD e.on 0) m) m) e.on = true := by
            intro l
            induction l with
            | nil => intro m h; rcases h with h | h; exact h; cases h
            | cons e' l ih =>
              intro m h
              refine ih _ ?_
              rcases h with h | h
              · left
                cases hb' : Region.binds .any e' <;> simp [hb', h]
              · rcases List.mem_cons.1 h with rfl | h
                · left; simp [hb]
                · exact .inr h
          exact this _ _ (.inr (by simpa using he))
        have hlt := bit_lt (hrow i _ ho).2 hb'
        exact ih e.on hlt (Nat.lt_trans hlt hi)
      rw [hr] at this
      cases this

/-- A region up to one of its operations, which comes behind all that are ahead of it. -/
theorem evAny_sound (hs : SpecOK P S) {R0 : Nat → Option (Nat × Nat)} {ops : Array Oper} {E : List Eff} {base c : Nat} {st0 : St} (h : PathOK P S RO ops base st0 E c) (hcut : ∀ j o, ops[j]? = some o → c ≤ j → ∀ i, i < c → bef ops j i) (ds : List Deferred)
    (hend : ∀ fuel listed D' R' s a' w', listed.size = ops.size → (∀ i, i < c → listed.getD i false = true) → (∀ i, c ≤ i → listed.getD i false = false) → listed.toList.count false ≤ fuel →
      SR P w0 X D' R' s a' w' → Stn ops E st0 every c s → Fresh R' (base + c) → (∀ id, id < base → R' id = R0 id) → a'.defers = ds → wpAnyIn (FW ro) n P .any ops Q fuel listed a' w') :
    ∀ (fuel : Nat) (listed : Array Bool) (a : Act) (w : World) (D : Nat → Prop) (R : Nat → Option (Nat × Nat)) (s : St), listed.size = ops.size → listed.toList.count false ≤ fuel → (∀ i, c ≤ i → listed.getD i false = false) →
      (∀ i k, listed.getD i false = true → bef ops i k → listed.getD k false = true) →
      SR P w0 X D R s a w → Stn ops E st0 (fun i => listed.getD i false) c s → (∀ i, listed.getD i true = false → R (base + i) = none) → Fresh R (base + c) → (∀ id, id < base → R id = R0 id) → a.defers = ds →
      wpAnyIn (FW ro) n P .any ops Q fuel listed a w := by
  have hN : ∀ k o, ops[k]? = some o → k < ops.size := fun k o hk => (Array.getElem?_eq_some_iff.1 hk).1
  have hle := h.le
  -- the end
  have fin : ∀ (fuel : Nat) (listed : Array Bool) (a : Act) (w : World) (D : Nat → Prop) (R : Nat → Option (Nat × Nat)) (s : St), listed.size = ops.size → listed.toList.count false ≤ fuel → (∀ i, c ≤ i → listed.getD i false = false) → (∀ i, i < c → listed.getD i false = true) →
      SR P w0 X D R s a w → Stn ops E st0 (fun i => listed.getD i false) c s → Fresh R (base + c) → (∀ id, id < base → R id = R0 id) → a.defers = ds → wpAnyIn (FW ro) n P .any ops Q fuel listed a w := by
    intro fuel listed a w D R s hsz hc hno hall hS hSt hF hR0 hds
    refine hend fuel listed D R s a w hsz hall hno hc hS ⟨fun x => ?_, fun id => ?_, hSt.nx, hSt.nt⟩ hF hR0 hds
    · rw [hSt.t, lastOf_congr fun i hi => ?_]
      simp only [only, hall i hi, every]
    · rw [hSt.m, lastOf_congr fun i hi => ?_]
      simp only [only, hall i hi, every]
  intro fuel
  induction fuel with
  | zero =>
    intro listed a w D R s hsz hc hno hdc hS hSt hR hF hR0 hds
    refine fin 0 listed a w D R s hsz hc hno (fun i hi => ?_) hS hSt hF hR0 hds
    have h0 : listed.toList.count false = 0 := by omega
    have := List.count_eq_zero.1 h0
    have hi' : i < listed.size := by omega
    cases hv : listed[i] with
    | true => simp [Array.getD_eq_getD_getElem?, hi', hv]
    | false => exact absurd (by rw [← hv]; simp) this
  | succ fuel ih =>
    intro listed a w D R s hsz hc hno hdc hS hSt hR hF hR0 hds
    by_cases hfull : ∀ i, i < c → listed.getD i false = true
    · exact fin (fuel + 1) listed a w D R s hsz hc hno hfull hS hSt hF hR0 hds
    refine ⟨fun hr => absurd (fun i hi => all_listed (fun k o ho => ⟨(h.row k o ho).1, (h.row k o ho).2.1⟩) hsz hr i (by omega)) hfull, fun i hi => ?_⟩
    obtain ⟨h1, o, ho, hall⟩ := mem_ready.1 hi
    have hin := hN i o ho
    have hi' : i < listed.size := by omega
    have hU : listed.getD i false = false := by
      simp [Array.getD_eq_getD_getElem?, hi'] at h1 ⊢
      exact h1
    have hpre : ∀ k, bef ops i k → listed.getD k false = true := fun k hb => by
      unfold bef at hb
      rw [(h.row i o ho).1] at hb
      obtain ⟨e, he, hbd, hk⟩ := befRow_spec _ _ hb
      have := hall e he hbd
      rcases hk with rfl | hk
      · exact this
      · exact hdc _ _ this hk
    have hic : i < c := by
      rcases Nat.lt_or_ge i c with h' | h'
      · exact h'
      · exact absurd (fun k hk => hpre k (hcut i o ho h' k hk)) hfull
    obtain ⟨e, si, hE, hsi, hdo, hacc, hb⟩ := h.each i o hic ho
    obtain ⟨ag1, ag2⟩ := h.agree hSt hdc hic ho hU hpre hsi hacc
    have hdo' := does_congr ag1 ag2 hdo
    have hb' : ∀ x, o.dst = some x → x < s.nt := by rw [hSt.nt]; exact hb
    have hsz' : (listed.setIfInBounds i true).size = ops.size := by simpa using hsz
    have hgi : ∀ d, (listed.setIfInBounds i true).getD i d = true := fun d => by simp [Array.getD_eq_getD_getElem?, hi']
    have hgk : ∀ k d, k ≠ i → (listed.setIfInBounds i true).getD k d = listed.getD k d := fun k d hk => getD_set_ne d (Ne.symm hk)
    have hc' : (listed.setIfInBounds i true).toList.count false ≤ fuel := by
      have := countA (A := listed) (i := i) (by simp [Array.getD_eq_getD_getElem?, hi'] at h1; simp [hi', h1])
      omega
    have hno' : ∀ k, c ≤ k → (listed.setIfInBounds i true).getD k false = false := fun k hk => by rw [hgk k _ (by omega)]; exact hno k hk
    have hdc' : ∀ i' k, (listed.setIfInBounds i true).getD i' false = true → bef ops i' k → (listed.setIfInBounds i true).getD k false = true := fun i' k g1 g2 => by
      by_cases e1 : k = i
      · rw [e1]; exact hgi _
      · rw [hgk k _ e1]
        by_cases e2 : i' = i
        · subst e2; exact hpre k g2
        · rw [hgk i' _ e2] at g1; exact hdc i' k g1 g2
    have hSt' : Stn ops E st0 (fun i' => (listed.setIfInBounds i true).getD i' false) c (s.app o.dst e) :=
      h.insert hSt hdc hic ho hE hU (hgi false) fun k hk => hgk k false hk
    have hR' : ∀ k, (listed.setIfInBounds i true).getD k true = false → k ≠ i ∧ listed.getD k true = false := fun k g => by
      have e1 : k ≠ i := fun e1 => by rw [e1, hgi] at g; cases g
      exact ⟨e1, by rw [hgk k _ e1] at g; exact g⟩
    have perform : evOp P S RO (base + i) o s some = some e → o.wpIn (FW ro) n P a w (wpAnyIn (FW ro) n P .any ops Q fuel (listed.setIfInBounds i true)) Q := fun hev => by
      refine evOp_sound hs hS (hR i h1) hb' hev fun D' R' e' v' w' hS2 hFr hK => ?_
      simp only [Option.some.injEq] at hK
      subst hK
      exact ih _ _ _ D' R' _ hsz' hc' hno' hdc' hS2 hSt' (fun k g => by
        obtain ⟨g1, g2⟩ := hR' k g
        rw [hFr.R (base + k) (by omega)]
        exact hR k g2) (fun id hid => by rw [hFr.R id (by omega)]; exact hF id hid) (fun id hid => (hFr.R id (by omega)).trans (hR0 id hid)) ((put_defers _ _ _).trans hds)
    have pass : e = ⟨.tup [], none⟩ → (∀ f, o.about P w a.eval = some f → (FW ro).fn f) ∧ wpAnyIn (FW ro) n P .any ops Q fuel (listed.setIfInBounds i true) (a.put o.dst undef) w := fun he => by
      refine ⟨fun _ _ => trivial, ih _ _ _ D R (s.app o.dst e) hsz' hc' hno' hdc' ?_ hSt' (fun k g => hR k (hR' k g).2) hF hR0 ((put_defers _ _ _).trans hds)⟩
      rw [he]
      exact hS.put hb' VR_undef
    unfold wpOpIn
    simp only [ho]
    rcases hdo' with ⟨hg, hev⟩ | ⟨g, want, tg, hg, htg, hcase⟩
    · rw [if_pos (by simp [Region.wanted, hg])]
      exact perform hev
    · have hv := hS.tmp tg
      rcases hcase with ⟨hx, hev⟩ | ⟨hx, he⟩
      · rw [hx] at hv
        have hb2 := getD_bool hv.bool_inv
        rw [if_pos (by simp [Region.wanted, hg, yielded, htg, hb2])]
        exact perform hev
      · rw [if_neg ?_]
        · exact pass he
        · rcases hx with hx | hx
          · rw [hx] at hv
            have hb2 := getD_bool hv.bool_inv
            cases want <;> simp [Region.wanted, hg, yielded, htg, hb2]
          · rw [hx] at hv
            have hy : yielded ops a.tmps g = none := by
              generalize hq : a.tmps.getD tg Go.undef = q at hv
              cases hv with
              | tup h1 _ =>
                simp only [yielded, htg, Option.bind_some]
                rw [Array.getD_eq_getD_getElem?] at hq
                cases ht : a.tmps[tg]? with
                | none => rfl
                | some z => rw [ht] at hq; simp at hq; subst hq; rfl
            simp [Region.wanted, hg, hy]

/-- What comes behind, one by one. -/
theorem wpAny_chain {ops : Array Oper} : ∀ (m c : Nat) (fuel : Nat) (listed : Array Bool) (a : Act) (w : World), c + m = ops.size → m ≤ fuel → (∀ k o, ops[k]? = some o → (befs ops).getD k 0 = befRow (befs ops) o ∧ (befs ops).getD k 0 < 2 ^ k) →
    (∀ j o, ops[j]? = some o → c ≤ j → ∀ i, i < j → bef ops j i) → listed.size = ops.size → (∀ i, i < c → listed.getD i false = true) → (∀ i, c ≤ i → listed.getD i false = false) →
    wpOpsIn (FW ro) n P ops Q (List.range' c m) a w → wpAnyIn (FW ro) n P .any ops Q fuel listed a w
  | 0, c, fuel, listed, a, w, hc, _, hrow, hb, hsz, h1, h2, h => by
    refine wpAnyIn_done ?_ h fuel
    cases hr : Region.ready .any ops listed with
    | nil => rfl
    | cons i l =>
      have hm : i ∈ Region.ready .any ops listed := by rw [hr]; simp
      obtain ⟨g1, o, g2, _⟩ := mem_ready.1 hm
      have hi := (Array.getElem?_eq_some_iff.1 g2).1
      have := h1 i (by omega)
      have hi' : i < listed.size := by omega
      simp [Array.getD_eq_getD_getElem?, hi'] at g1 this
      rw [g1] at this; cases this
  | m + 1, c, 0, listed, a, w, hc, hf, _, _, _, _, _, _ => by omega
  | m + 1, c, fuel + 1, listed, a, w, hc, hf, hrow, hb, hsz, h1, h2, h => by
    have hsz' : (listed.setIfInBounds c true).size = ops.size := by simpa using hsz
    have hcl : c < listed.size := by omega
    refine ⟨fun hr => ?_, fun i hi => ?_⟩
    · have := all_listed hrow hsz hr c (by omega)
      rw [h2 c (Nat.le_refl _)] at this; cases this
    · obtain ⟨g1, o, ho, hall⟩ := mem_ready.1 hi
      have hin := (Array.getElem?_eq_some_iff.1 ho).1
      have hi' : i < listed.size := by omega
      have hic : c ≤ i := by
        rcases Nat.lt_or_ge i c with h' | h'
        · have := h1 i h'
          simp [Array.getD_eq_getD_getElem?, hi'] at g1 this
          rw [g1] at this; cases this
        · exact h'
      have e : i = c := by
        rcases Nat.lt_or_ge c i with h' | h'
        · exfalso
          have hbb := hb i o ho hic
          -- some binding edge leads to one that is not listed
          have : ∀ k, bef ops i k → k < c ∨ ∃ e, e ∈ o.after ∧ Region.binds .any e = true ∧ c ≤ e.on := fun k hk => by
            unfold bef at hk
            rw [(hrow i o ho).1] at hk
            obtain ⟨e, he, hbd, hk⟩ := befRow_spec _ _ hk
            rcases Nat.lt_or_ge e.on c with h3 | h3
            · left
              rcases hk with rfl | hk
              · exact h3
              · have ho2 : ops[e.on]? = some (ops[e.on]'(by omega)) := by simp
                have := bit_lt (hrow e.on _ ho2).2 hk
                omega
            · exact .inr ⟨e, he, hbd, h3⟩
          rcases this c (hbb c h') with h3 | ⟨e, he, hbd, h3⟩
          · omega
          · have := hall e he hbd
            rw [h2 e.on h3] at this; cases this
        · omega
      subst e
      rw [List.range'_succ, wpOpsIn_cons] at h
      refine wpOpIn_mono (fun a' w' h' => wpAny_chain m (i + 1) fuel _ a' w' (by omega) (by omega) hrow (fun j o hj hcj => hb j o hj (by omega)) hsz' (fun k hk => ?_) (fun k hk => ?_) h') h
      · by_cases ek : k = i
        · subst ek; simp [Array.getD_eq_getD_getElem?, hcl]
        · rw [getD_set_ne false (Ne.symm ek)]; exact h1 k (by omega)
      · rw [getD_set_ne false (by omega)]; exact h2 k (by omega)

/-- A region whose order is drawn, up to one of its operations; what comes behind that, comes one by one. -/
theorem region_cut (hs : SpecOK P S) (hm : P.follows .mixedOrders = true) {ops : Array Oper} {base id c : Nat} {K : St → Option ρ} {r : ρ} (hd : drawOK ops = true) (hle : c ≤ ops.size)
    (hcut : ∀ j o, ops[j]? = some o → c ≤ j → ∀ i, i < j → bef ops j i) (h : SR P w0 X D R st a w) (hf : Fresh R base)
    (he : evOps P S RO ops base (chkOf ops true base) (ops.toList.take c) 0 st K = some r)
    (hn : ∀ D' R' st' a' w', SR P w0 X D' R' st' a' w' → Fresh R' (base + c) → (∀ id, id < base → R' id = R id) → a'.defers = a.defers → st'.nx = st.nx → st'.nt = st.nt → K st' = some r →
      wpOpsIn (FW ro) n P ops Q (List.range' c (ops.size - c)) a' w') :
    (Code.region id ops true).wpIn (FW ro) n P Q a w := by
  have h0 : Stn ops [] st every 0 st := ⟨fun _ => rfl, fun _ => rfl, rfl, rfl⟩
  obtain ⟨E, h2, h3, s, h4, h5⟩ := evOps_path_take hle h0 he
  have hrow : ∀ k o, ops[k]? = some o → _ := fun k o ho => drawRows_spec ops.toList 0 (fun i => by simp) hd k o (Nat.zero_le _) ho
  have hp : PathOK P S RO ops base st E c := ⟨hle, h2, hrow, fun i o hi ho => h3 i o hi ho⟩
  refine wpIn_region_any hm (evAny_sound hs (R0 := R) hp (fun j o hj hcj i hi => hcut j o hj hcj i (by omega)) a.defers (fun fuel listed D' R' s' a' w' hsz hall hno hcnt hS hSt hF hR0 hds => ?_) ops.size _ a _ D R st (by simp) (by simp) (fun i _ => ?_) (fun i k hi _ => ?_) (h.world ⟨rfl, rfl, rfl, Nat.le_refl _, fun _ _ => rfl⟩) ?_ (fun i _ => hf _ (by omega)) (fun id hid => hf id (by omega)) (fun _ _ => rfl) rfl)
  · refine wpAny_chain (ops.size - c) c fuel listed a' w' (by omega) ?_ (fun k o ho => ⟨(hrow k o ho).1, (hrow k o ho).2.1⟩) hcut hsz hall hno ?_
    · have : ∀ (l : List Bool) (c : Nat), (∀ i, c ≤ i → l.getD i false = false) → l.length - c ≤ l.count false := by
        intro l
        induction l with
        | nil => intro c _; simp
        | cons b l ih =>
          intro c h
          cases c with
          | zero =>
            have hb := h 0 (Nat.le_refl _)
            simp at hb
            subst hb
            have := ih 0 (fun i hi => by have := h (i + 1) (by omega); simpa using this)
            simp at this ⊢; omega
          | succ c =>
            have := ih c (fun i hi => by have := h (i + 1) (by omega); simpa using this)
            have h2 : l.count false ≤ (b :: l).count false := by rw [List.count_cons]; omega
            simp only [List.length_cons]; omega
      have := this listed.toList c (fun i hi => by have := hno i hi; simpa [Array.getD_eq_getD_getElem?, List.getD_eq_getElem?_getD] using this)
      rw [Array.length_toList, hsz] at this
      omega
    · exact hn D' R' s a' w' (Eqv.sr ⟨fun x => by rw [hSt.t, h4.t], fun x => by rw [hSt.m, h4.m], hSt.nx.trans h4.nx.symm, hSt.nt.trans h4.nt.symm⟩ hS) hF hR0 hds h4.nx h4.nt h5
  · simp [Array.getD_eq_getD_getElem?, Array.getElem?_replicate]
    split <;> simp
  · simp [Array.getD_eq_getD_getElem?, Array.getElem?_replicate] at hi
    split at hi <;> simp at hi
  · refine ⟨fun x => ?_, fun x => ?_, rfl, rfl⟩
    · rw [lastOf_upto (j := 0) (Nat.zero_le _) fun i _ hi => ?_]
      · rfl
      · simp [only, Array.getElem?_replicate]; split <;> simp
    · rw [lastOf_upto (j := 0) (Nat.zero_le _) fun i _ hi => ?_]
      · rfl
      · simp [only, Array.getElem?_replicate]; split <;> simp

theorem evDraw_sound (hs : SpecOK P S) (hm : P.follows .mixedOrders = true) {ops : Array Oper} {base id : Nat} {K : St → Option ρ} {r : ρ} (hd : drawOK ops = true) (h : SR P w0 X D R st a w) (hf : Fresh R base)
    (he : evOps P S RO ops base (chkOf ops true base) ops.toList 0 st K = some r)
    (hn : ∀ D' R' st' a' w', SR P w0 X D' R' st' a' w' → Fresh R' (base + ops.size) → (∀ id, id < base → R' id = R id) → a'.defers = a.defers → st'.nx = st.nx → st'.nt = st.nt → K st' = some r → Q .normal a' w') :
    (Code.region id ops true).wpIn (FW ro) n P Q a w := by
  refine region_cut hs hm (c := ops.size) hd (Nat.le_refl _) (fun j o hj hcj => absurd (Array.getElem?_eq_some_iff.1 hj).1 (by omega)) h hf (by rw [← Array.length_toList, List.take_length]; exact he) fun D' R' st' a' w' hS hF hR hd' hx ht hK => ?_
  rw [Nat.sub_self]
  exact hn D' R' st' a' w' hS hF hR hd' hx ht hK
end Go.Ev
