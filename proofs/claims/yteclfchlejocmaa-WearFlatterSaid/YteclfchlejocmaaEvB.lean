/-
  The law WearRates returns true for every climate and all numbers, and leaves its arguments as they were. No conditions.
-/
import Derived.Test.YteclfchlejocmaaEvA
import Derived.Below
import Derived.RangeFuncIn
import Derived.RangeFuncRecord
import Derived.Laws.Cells
import Derived.Laws.CopyRow
import Derived.Laws.NewBlocks
import Derived.Laws.World
set_option linter.unusedVariables false
set_option linter.unusedSimpArgs false
namespace Go.Ev
open Go Go.RowKit

variable (P : Program)

/-- A cell's value is of its kind. -/
inductive WT : CT → AV → Prop
  | int {k : IntKind} {n : Int} : k.min ≤ n → n ≤ k.max → WT (.int k) (.i k n)
  | bool {x : Bool} : WT .bool (.b x)
  | str {x : ByteArray} : x.size ≤ 9223372036854775807 → WT .str (.s x)
  | sl {e : TypeId} {es : List (List AV)} : es.length ≤ 9223372036854775807 → (∀ x, x ∈ es → x.length = (cts P e).length) →
      (∀ x, x ∈ es → ∀ j, j < x.length → WT ((cts P e).getD j .oth) (x.getD j .u)) → WT (.sl e) (.rs e es)
  | oth {a : AV} : WT .oth a
def WTs (all : List CT) (cs : List AV) : Prop := cs.length = all.length ∧ ∀ j, j < cs.length → WT P (all.getD j .oth) (cs.getD j .u)

/-- A value of the evaluator's and one of the machine's. -/
inductive VR (D : Nat → Prop) (R : Nat → Option (Nat × Nat)) (w : World) : AV → Value → Prop
  | b {x : Bool} : VR D R w (.b x) (.bool x)
  | i {k : IntKind} {n : Int} : k.min ≤ n → n ≤ k.max → VR D R w (.i k n) (.int k n)
  | s {x : ByteArray} : x.size ≤ 9223372036854775807 → VR D R w (.s x) (.string x)
  | nl : VR D R w .nl (.slice none 0 0)
  | rs0 {e : TypeId} {a : Option Addr} {c : Nat} : VR D R w (.rs e []) (.slice a 0 c)
  | rs {e : TypeId} {es : List (List AV)} {b o c : Nat} {f : Nat → Nat → Value} : es ≠ [] → 0 < P.cellsOf e → es.length ≤ c → (cts P e).length = P.cellsOf e → ¬ D b → WT P (.sl e) (.rs e es) →
      (∀ i j, i < es.length → j < P.cellsOf e → w.cell? ⟨b, o + (i * P.cellsOf e + j), none⟩ = some (f i j)) →
      (∀ i j, i < es.length → j < P.cellsOf e → VR D R w ((es.getD i []).getD j .u) (f i j)) → VR D R w (.rs e es) (.slice (some ⟨b, o, none⟩) es.length c)
  | sl {id off len b sz c : Nat} : R id = some (b, sz) → len ≤ c → len ≤ 9223372036854775807 → VR D R w (.sl id off len) (.slice (some ⟨b, off * sz, none⟩) len c)
  | p {id i j b sz : Nat} : R id = some (b, sz) → VR D R w (.p id i j) (.pointer (some ⟨b, i * sz + j, none⟩))
  | rp {all : List CT} {cs : List AV} {j b o : Nat} {f : Nat → Value} : ¬ D b → 0 < cs.length → WTs P all cs →
      (∀ k, k < cs.length → w.cell? ⟨b, o + k, none⟩ = some (f k)) → (∀ k, k < cs.length → VR D R w (cs.getD k .u) (f k)) →
      VR D R w (.rp all cs j) (.pointer (some ⟨b, o + j, none⟩))
  | np : VR D R w .np (.pointer none)
  | fn {f : FuncId} {caps : List AV} {cv : Array Value} : cv.size = caps.length → (∀ k, k < caps.length → VR D R w (caps.getD k .u) (cv.getD k undef)) → VR D R w (.fn f caps) (.func (.func f) #[] cv)
  | nf : VR D R w .nf .nilFunc
  | yl {l : Nat} : VR D R w (.yl l) (.func (.yield l) #[] #[])
  | ni : VR D R w .ni .nilIface
  | ifc {t : TypeId} {x : AV} {v : Value} : VR D R w x v → VR D R w (.ifc t x) (.iface t v)
  | agg {cs : List AV} {cv : Array Value} : cv.size = cs.length → (∀ k, k < cs.length → VR D R w (cs.getD k .u) (cv.getD k undef)) → VR D R w (.agg cs) (.agg cv)
  | tup {cs : List AV} {cv : Array Value} : cv.size = cs.length → (∀ k, k < cs.length → VR D R w (cs.getD k .u) (cv.getD k undef)) → VR D R w (.tup cs) (.tuple cv)
  | u {v : Value} : VR D R w .u v

variable {P}
variable {D D' : Nat → Prop} {R R' : Nat → Option (Nat × Nat)} {w w' : World}

theorem VR.mono' {a : AV} {v : Value} (h : VR P D R w a v) (hR : ∀ id x, R id = some x → R' id = some x)
    (hc : ∀ (b o : Nat) (u : Value), ¬ D b → w.cell? ⟨b, o, none⟩ = some u → ¬ D' b ∧ w'.cell? ⟨b, o, none⟩ = some u) : VR P D' R' w' a v := by
  induction h with
  | b => exact .b
  | i h1 h2 => exact .i h1 h2
  | s h => exact .s h
  | nl => exact .nl
  | rs0 => exact .rs0
  | @rs e es b o c f h1 hz h2 h3 h4 h5 h6 h7 ih =>
    have h0 : 0 < es.length := by cases es <;> simp_all
    exact .rs h1 hz h2 h3 (hc _ _ _ h4 (h6 0 0 h0 hz)).1 h5 (fun i j hi hj => (hc _ _ _ h4 (h6 i j hi hj)).2) ih
  | sl h1 h2 h3 => exact .sl (hR _ _ h1) h2 h3
  | p h => exact .p (hR _ _ h)
  | @rp all cs j b o f h1 h0 h2 h3 h4 ih => exact .rp (hc _ _ _ h1 (h3 0 h0)).1 h0 h2 (fun k hk => (hc _ _ _ h1 (h3 k hk)).2) ih
  | np => exact .np
  | fn h1 _ ih => exact .fn h1 ih
  | nf => exact .nf
  | yl => exact .yl
  | ni => exact .ni
  | ifc _ ih => exact .ifc ih
  | agg h1 _ ih => exact .agg h1 ih
  | tup h1 _ ih => exact .tup h1 ih
  | u => exact .u

theorem VR.mono {a : AV} {v : Value} (h : VR P D R w a v) (hR : ∀ id x, R id = some x → R' id = some x)
    (hw : ∀ b, b < w.heap.size → ¬ D b → ¬ D' b ∧ w'.heap[b]? = w.heap[b]?) : VR P D' R' w' a v :=
  h.mono' hR fun b o u hd hc => by
    have hlt := World.block_lt_of_cell? w _ hc
    obtain ⟨h1, h2⟩ := hw b hlt hd
    exact ⟨h1, (World.cell?_of_block (w := w) h2).trans hc⟩

/-! ### Kinds of cells -/
theorem proj_of_WT {c : CT} {a : AV} (h : WT P c a) : c = .oth ∨ proj c a = a := by
  cases h <;> simp [proj, toI, toB, toS, toE]
theorem proj_WT {c : CT} {a : AV} (h : WT P c a) : proj c a = a := by
  cases h <;> simp [proj, toI, toB, toS, toE]
theorem ctEq_eq {a b : CT} (h : ctEq a b = true) : a = b := by
  cases a <;> cases b <;> simp_all [ctEq]
theorem ctsEq_eq : ∀ {a b : List CT}, ctsEq a b = true → a = b
  | [], [], _ => rfl
  | [], _ :: _, h => by simp [ctsEq] at h
  | _ :: _, [], h => by simp [ctsEq] at h
  | a :: x, b :: y, h => by
    simp only [ctsEq, Bool.and_eq_true] at h
    rw [ctEq_eq h.1, ctsEq_eq h.2]
theorem ctsAt_spec {all want : List CT} {j : Nat} (h : ctsAt all j want = true) :
    ∀ k, k < want.length → j + k < all.length ∧ all.getD (j + k) .oth = want.getD k .oth := by
  have exact_ : ctsEq ((all.drop j).take want.length) want = true → ∀ k, k < want.length → j + k < all.length ∧ all.getD (j + k) .oth = want.getD k .oth := by
    intro h k hk
    have e := ctsEq_eq h
    have hlen : ((all.drop j).take want.length).length = want.length := by rw [e]
    simp at hlen
    refine ⟨by omega, ?_⟩
    conv => rhs; rw [← e]
    simp [List.getD_eq_getElem?_getD, List.getElem?_take, hk]
  match want, h with
  | [], h => intro k hk; simp at hk
  | [c], h =>
    simp only [ctsAt] at h
    cases ha : all.all (ctEq c ·) with
    | true =>
      rw [ha] at h
      simp only [cond_true] at h
      have hlt : j < all.length := by simpa [Nat.blt_eq] using h
      intro k hk
      have : k = 0 := by simpa using hk
      subst this
      refine ⟨by omega, ?_⟩
      have hm := List.all_eq_true.1 ha (all[j]) (List.getElem_mem hlt)
      simp [List.getD_eq_getElem?_getD, List.getElem?_eq_getElem hlt, (ctEq_eq hm).symm]
    | false =>
      rw [ha] at h
      exact exact_ (by simpa using h)
  | a :: b :: r, h => exact exact_ h
theorem WTs.at_ {all want : List CT} {cs : List AV} {j : Nat} (h : WTs P all cs) (hc : ctsAt all j want = true) :
    ∀ k, k < want.length → j + k < cs.length ∧ WT P (want.getD k .oth) (cs.getD (j + k) .u) := by
  intro k hk
  obtain ⟨h1, h2⟩ := ctsAt_spec hc k hk
  have h3 : j + k < cs.length := by rw [h.1]; exact h1
  exact ⟨h3, h2 ▸ h.2 _ h3⟩
theorem projs_length : ∀ (want : List CT) (cs : List AV) (j : Nat), (projs want cs j).length = want.length
  | [], _, _ => rfl
  | _ :: r, cs, j => by simp [projs, projs_length r cs (j + 1)]
theorem projs_getD : ∀ (want : List CT) (cs : List AV) (j k : Nat), k < want.length → (projs want cs j).getD k .u = proj (want.getD k .oth) (cs.getD (j + k) .u)
  | [], _, _, k, h => by simp at h
  | c :: r, cs, j, 0, _ => by simp [projs]
  | c :: r, cs, j, k + 1, h => by
    have := projs_getD r cs (j + 1) k (by simpa using h)
    simp only [projs, List.getD_cons_succ]
    rw [this]
    congr 2
    omega
theorem okT_spec {t : TypeId} (h : okT P t = true) : (cts P t).length = P.cellsOf t ∧ 0 < P.cellsOf t ∧ (isAgg P t = false → (cts P t).length = 1) := by
  unfold okT at h
  simp only [Bool.and_eq_true, Bool.or_eq_true] at h
  obtain ⟨⟨h1, h2⟩, h3⟩ := h
  refine ⟨Nat.eq_of_beq_eq_true h1, by simpa [Nat.blt_eq] using h2, fun hf => ?_⟩
  rcases h3 with h3 | h3
  · rw [hf] at h3; cases h3
  · exact Nat.eq_of_beq_eq_true h3
theorem okT_under {t : TypeId} (h : okT P t = true) : ∃ d, P.underlying t = some d := by
  obtain ⟨h1, h2, _⟩ := okT_spec h
  cases hu : P.underlying t with
  | some d => exact ⟨d, rfl⟩
  | none => simp [cts, ctsOf, hu] at h1; omega
theorem cellsOf_info {t : TypeId} (h : 0 < P.cellsOf t) : ∃ i, P.info? t = some i ∧ i.size = P.cellsOf t := by
  unfold Program.cellsOf at h ⊢
  cases hi : P.info? t with
  | some i => exact ⟨i, rfl, by simp⟩
  | none => simp [hi] at h
theorem run_sizeOf' {t : TypeId} (h : 0 < P.cellsOf t) (w : World) : (sizeOf t).run P w = .ok (P.cellsOf t) w := by
  obtain ⟨i, hi, hs⟩ := cellsOf_info h
  simp [sizeOf, typeInfo, hi, hs]
theorem run_underlying' {t : TypeId} {d : TypeDesc} (h : P.underlying t = some d) (w : World) : (underlying t).run P w = .ok d w := by
  simp [underlying, h]
theorem run_isAgg' {t : TypeId} {d : TypeDesc} (h : P.underlying t = some d) (w : World) : (Go.isAgg t).run P w = .ok (isAgg P t) w := by
  simp only [Go.isAgg, Sem.run_bind, run_underlying' h, Result.andThen_ok, isAgg, h]
  cases d <;> rfl
theorem add_plain' (b o j : Nat) : (⟨b, o, none⟩ : Addr).add j = ⟨b, o + j, none⟩ := by unfold Addr.add; split <;> simp_all

/-- A load out of cells that are known. -/
theorem run_loadVar' {t : TypeId} (ht : okT P t = true) {b o : Nat} {f : Nat → Value} (hc : ∀ k, k < P.cellsOf t → w.cell? ⟨b, o + k, none⟩ = some (f k)) :
    (loadVar t ⟨b, o, none⟩).run P w = .ok (if isAgg P t then .agg ((List.range (P.cellsOf t)).map f).toArray else f 0) w := by
  obtain ⟨d, hd⟩ := okT_under ht
  obtain ⟨h1, h2, h3⟩ := okT_spec ht
  simp only [loadVar, Sem.run_bind, run_isAgg' hd, Result.andThen_ok]
  cases hA : isAgg P t with
  | true =>
    simp only [if_true, Sem.run_bind, run_sizeOf' h2, Result.andThen_ok]
    rw [run_loadCells w ⟨b, o, none⟩ _ f (fun j hj => by rw [add_plain']; exact hc j hj)]
    simp
  | false =>
    have := hc 0 h2
    simp at this
    simp [run_load, this]

theorem VR_mkV {t : TypeId} (ht : okT P t = true) {all : List CT} {cs : List AV} {j : Nat} (hw : WTs P all cs) (hc : ctsAt all j (cts P t) = true) {f : Nat → Value}
    (hv : ∀ k, k < P.cellsOf t → VR P D R w (cs.getD (j + k) .u) (f k)) :
    VR P D R w (mkV P t cs j) (if isAgg P t then .agg ((List.range (P.cellsOf t)).map f).toArray else f 0) := by
  obtain ⟨h1, h2, h3⟩ := okT_spec ht
  have key : ∀ k, k < P.cellsOf t → VR P D R w (proj ((cts P t).getD k .oth) (cs.getD (j + k) .u)) (f k) := by
    intro k hk
    obtain ⟨_, hW⟩ := hw.at_ hc k (by omega)
    rw [proj_WT hW]
    exact hv k hk
  unfold mkV
  cases hA : isAgg P t with
  | true =>
    simp only [cond_true, if_true]
    refine .agg (by simp [projs_length, h1]) fun k hk => ?_
    rw [projs_length, h1] at hk
    rw [projs_getD _ _ _ _ (by omega)]
    simpa [Array.getD_eq_getD_getElem?, hk] using key k hk
  | false =>
    have h4 := h3 hA
    have := key 0 h2
    simp only [cond_false, Bool.false_eq_true, if_false]
    have e : (cts P t).headD .oth = (cts P t).getD 0 .oth := by cases (cts P t) <;> simp
    rw [e]
    simpa using this
end Go.Ev
