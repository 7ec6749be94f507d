/-
  For every skin, probe and point: no probe makes bounds wider, at its own point they are within what it says, and the same probe once more changes nothing; the law's guards are those of the given statement.
-/
import Derived.Test.YtoglnllbopcejaaTa
import Derived.Test.YtoglnllbopcejaaPd
import Derived.Test.YtoglnllbopcejaaPe
import Derived.Test.YtoglnllbopcejaaPf
import Derived.Test.YtoglnllbopcejaaPc
set_option linter.unusedVariables false
set_option maxRecDepth 100000
set_option linter.unusedVariables false
namespace Go.Proofs.Ytoglnllbopcejaa
open Go Go.Ev
theorem WT_int {a : AV} {k : IntKind} (h : WT Try.prog (.int k) a) : ∃ n, a = .i k n ∧ k.min ≤ n ∧ n ≤ k.max := by
  cases h with
  | int h1 h2 => exact ⟨_, rfl, h1, h2⟩
theorem WT_sl {a : AV} {e : TypeId} (h : WT Try.prog (.sl e) a) : ∃ es, a = .rs e es ∧ es.length ≤ 9223372036854775807 ∧ (∀ x, x ∈ es → x.length = (cts Try.prog e).length) ∧ (∀ x, x ∈ es → ∀ j, j < x.length → WT Try.prog ((cts Try.prog e).getD j .oth) (x.getD j .u)) := by
  cases h with
  | sl h1 h2 h3 => exact ⟨_, rfl, h1, h2, h3⟩
theorem ty_agg {a : AV} {t : TypeId} {c : List CT} (hA : Ev.isAgg Try.prog t = true) (hc : cts Try.prog t = c) (h : TyArg Try.prog t a) : ∃ bs, a = .agg bs ∧ WTs Try.prog c bs := by
  rcases h with ⟨_, as1, rfl, h⟩ | ⟨h, _⟩
  · exact ⟨as1, rfl, hc ▸ h⟩
  · rw [hA] at h; cases h
theorem WTs_cons {c : CT} {cs : List CT} {bs : List AV} (h : WTs Try.prog (c :: cs) bs) : ∃ a r, bs = a :: r ∧ WT Try.prog c a ∧ WTs Try.prog cs r := by
  obtain ⟨h1, h2⟩ := h
  cases bs with
  | nil => simp at h1
  | cons a r =>
    refine ⟨a, r, rfl, by simpa using h2 0 (by simp), by simpa using h1, fun j hj => ?_⟩
    simpa using h2 (j + 1) (by simpa using hj)
theorem WTs_nil {bs : List AV} (h : WTs Try.prog [] bs) : bs = [] := by simpa using h.1
theorem tyArgs_cons {t : TypeId} {ts : List TypeId} {bs : List AV} (h : TyArgs Try.prog (t :: ts) bs) : ∃ a r, bs = a :: r ∧ TyArg Try.prog t a ∧ TyArgs Try.prog ts r := by
  cases bs with
  | nil => cases h
  | cons a r => exact ⟨a, r, rfl, h.1, h.2⟩
theorem tyArgs_nil {bs : List AV} (h : TyArgs Try.prog [] bs) : bs = [] := by
  cases bs with
  | nil => rfl
  | cons a r => cases h
end Go.Proofs.Ytoglnllbopcejaa

set_option maxRecDepth 100000
namespace Go.Proofs.Ytoglnllbopcejaa
open Go Go.Ev
def its : ISpec := fun g caps => cond (Nat.beq g 60) (match caps with
  | [.rp [.sl 32] [.rs 32 es] 0] => cond (okS es) (some ((sidesX es).map encS)) none
  | _ => none) none
theorem its_ok : IOK Try.prog its := by
  intro g caps xs h
  unfold its at h
  obtain ⟨hg, h2⟩ := cond_some h
  clear h
  have hg := Nat.eq_of_beq_eq_true hg
  subst hg
  split at h2
  · obtain ⟨hc, h3⟩ := cond_some h2
    cases h3
    exact sides_con hc
  · cases h2
noncomputable def S1 : Ev.Spec := runS Try.prog its ro S0 300 5 12
theorem S1_ok : SpecOK Try.prog S1 := runS_ok its_ok mixed names S0_ok 12
theorem lives_eq : S1 8 [] [] = some (true, .b true, []) := by kernel_rfl
theorem lives_con : Con Try.prog 8 [] [] (.b true) [] := S1_ok _ _ _ _ _ _ lives_eq rfl
end Go.Proofs.Ytoglnllbopcejaa

set_option maxRecDepth 100000
set_option linter.unusedVariables false
namespace Go.Proofs.Ytoglnllbopcejaa
open Go Go.Ev
structure Lq where
  g7 : List (List AV) → List (List AV) → Int → Int → Int → List (List AV) → Bool
  w7 : List (List AV) → List (List AV) → Int → Int → Int → List (List AV) → Bool
  g9 : List (List AV) → List (List AV) → Int → Int → Int → List (List AV) → Int → Int → Int → Int → Bool
  p9 : List (List AV) → List (List AV) → Int → Int → Int → List (List AV) → Int → Int → Int → Int → (List (List AV)) × (List (List AV)) × Int × Int × Int × (List (List AV)) × Int
  g10 : List (List AV) → List (List AV) → Int → Int → Int → List (List AV) → Int → Int → Int → Int → Bool
  p10 : List (List AV) → List (List AV) → Int → Int → Int → List (List AV) → Int → Int → Int → Int → (List (List AV)) × (List (List AV)) × Int × Int × Int × (List (List AV)) × Int
  g11 : List (List AV) → List (List AV) → Int → Int → Int → List (List AV) → List (List AV) → List (List AV) → Int → Int → Int → List (List AV) → Bool
  w11 : List (List AV) → List (List AV) → Int → Int → Int → List (List AV) → List (List AV) → List (List AV) → Int → Int → Int → List (List AV) → Bool
noncomputable def Q0 : Lq := ⟨g7, w7_0, g9 V0, fun os hs st tl th ms u v rd wr => (t9 V0 os hs st tl th ms u v rd wr).val, g10 U0, fun os hs st tl th ms u v rd wr => (t10 U0 os hs st tl th ms u v rd wr).val, g11, w11_0⟩
noncomputable def e7q (V : Lq) (args : List AV) (rows : List Blk) : Option (Bool × AV × List Blk) := match args, rows with
  | [.agg [.rs a os, .rs b hs, .i .i64 st, .i .i64 tl, .i .i64 th, .rs c ms]], [] => cond (Nat.beq a 32 && (Nat.beq b 55 && (Nat.beq c 67))) (some (V.g7 os hs st tl th ms, .b (V.w7 os hs st tl th ms), [])) none
  | _, _ => none
theorem e7q_ok {V : Lq} (hV : V = Q0) (args : List AV) (rows : List Blk) (pre : Bool) (v : AV) (rows' : List Blk) (h : e7q V args rows = some (pre, v, rows')) (hp : pre = true) : Con Try.prog 7 args rows v rows' := by
  subst hV
  unfold e7q at h
  split at h <;> first | (cases h; done) | skip
  obtain ⟨h1, h2⟩ := cond_some2 h
  clear h
  simp only [Bool.and_eq_true] at h1
  obtain ⟨q0, q1, q2⟩ := h1
  obtain rfl := Nat.eq_of_beq_eq_true q0
  obtain rfl := Nat.eq_of_beq_eq_true q1
  obtain rfl := Nat.eq_of_beq_eq_true q2
  cases h2
  exact con7 _ _ _ _ _ _ hp
noncomputable def e9q (V : Lq) (args : List AV) (rows : List Blk) : Option (Bool × AV × List Blk) := match args, rows with
  | [.agg [.rs a os, .rs b hs, .i .i64 st, .i .i64 tl, .i .i64 th, .rs c ms], .agg [.i .i64 u, .i .i64 v], .i .i64 rd, .i .i64 wr], [] => cond (Nat.beq a 32 && (Nat.beq b 55 && (Nat.beq c 67))) (some (V.g9 os hs st tl th ms u v rd wr, .tup [.agg [.rs 32 (V.p9 os hs st tl th ms u v rd wr).1, .rs 55 (V.p9 os hs st tl th ms u v rd wr).2.1, .i .i64 (V.p9 os hs st tl th ms u v rd wr).2.2.1, .i .i64 (V.p9 os hs st tl th ms u v rd wr).2.2.2.1, .i .i64 (V.p9 os hs st tl th ms u v rd wr).2.2.2.2.1, .rs 67 (V.p9 os hs st tl th ms u v rd wr).2.2.2.2.2.1], .i .i64 (V.p9 os hs st tl th ms u v rd wr).2.2.2.2.2.2], [])) none
  | _, _ => none
theorem e9q_ok {V : Lq} (hV : V = Q0) (args : List AV) (rows : List Blk) (pre : Bool) (v : AV) (rows' : List Blk) (h : e9q V args rows = some (pre, v, rows')) (hp : pre = true) : Con Try.prog 9 args rows v rows' := by
  subst hV
  unfold e9q at h
  split at h <;> first | (cases h; done) | skip
  obtain ⟨h1, h2⟩ := cond_some2 h
  clear h
  simp only [Bool.and_eq_true] at h1
  obtain ⟨q0, q1, q2⟩ := h1
  obtain rfl := Nat.eq_of_beq_eq_true q0
  obtain rfl := Nat.eq_of_beq_eq_true q1
  obtain rfl := Nat.eq_of_beq_eq_true q2
  cases h2
  exact con9 rfl _ _ _ _ _ _ _ _ _ _ hp
noncomputable def e10q (V : Lq) (args : List AV) (rows : List Blk) : Option (Bool × AV × List Blk) := match args, rows with
  | [.agg [.rs a os, .rs b hs, .i .i64 st, .i .i64 tl, .i .i64 th, .rs c ms], .agg [.i .i64 u, .i .i64 v], .i .i64 rd, .i .i64 wr], [] => cond (Nat.beq a 32 && (Nat.beq b 55 && (Nat.beq c 67))) (some (V.g10 os hs st tl th ms u v rd wr, .tup [.agg [.rs 32 (V.p10 os hs st tl th ms u v rd wr).1, .rs 55 (V.p10 os hs st tl th ms u v rd wr).2.1, .i .i64 (V.p10 os hs st tl th ms u v rd wr).2.2.1, .i .i64 (V.p10 os hs st tl th ms u v rd wr).2.2.2.1, .i .i64 (V.p10 os hs st tl th ms u v rd wr).2.2.2.2.1, .rs 67 (V.p10 os hs st tl th ms u v rd wr).2.2.2.2.2.1], .i .i64 (V.p10 os hs st tl th ms u v rd wr).2.2.2.2.2.2], [])) none
  | _, _ => none
theorem e10q_ok {V : Lq} (hV : V = Q0) (args : List AV) (rows : List Blk) (pre : Bool) (v : AV) (rows' : List Blk) (h : e10q V args rows = some (pre, v, rows')) (hp : pre = true) : Con Try.prog 10 args rows v rows' := by
  subst hV
  unfold e10q at h
  split at h <;> first | (cases h; done) | skip
  obtain ⟨h1, h2⟩ := cond_some2 h
  clear h
  simp only [Bool.and_eq_true] at h1
  obtain ⟨q0, q1, q2⟩ := h1
  obtain rfl := Nat.eq_of_beq_eq_true q0
  obtain rfl := Nat.eq_of_beq_eq_true q1
  obtain rfl := Nat.eq_of_beq_eq_true q2
  cases h2
  exact con10 rfl _ _ _ _ _ _ _ _ _ _ hp
noncomputable def e11q (V : Lq) (args : List AV) (rows : List Blk) : Option (Bool × AV × List Blk) := match args, rows with
  | [.agg [.rs a os, .rs b hs, .i .i64 st, .i .i64 tl, .i .i64 th, .rs c ms], .agg [.rs d os', .rs e hs', .i .i64 st', .i .i64 tl', .i .i64 th', .rs f ms']], [] => cond (Nat.beq a 32 && (Nat.beq b 55 && (Nat.beq c 67 && (Nat.beq d 32 && (Nat.beq e 55 && (Nat.beq f 67)))))) (some (V.g11 os hs st tl th ms os' hs' st' tl' th' ms', .b (V.w11 os hs st tl th ms os' hs' st' tl' th' ms'), [])) none
  | _, _ => none
theorem e11q_ok {V : Lq} (hV : V = Q0) (args : List AV) (rows : List Blk) (pre : Bool) (v : AV) (rows' : List Blk) (h : e11q V args rows = some (pre, v, rows')) (hp : pre = true) : Con Try.prog 11 args rows v rows' := by
  subst hV
  unfold e11q at h
  split at h <;> first | (cases h; done) | skip
  obtain ⟨h1, h2⟩ := cond_some2 h
  clear h
  simp only [Bool.and_eq_true] at h1
  obtain ⟨q0, q1, q2, q3, q4, q5⟩ := h1
  obtain rfl := Nat.eq_of_beq_eq_true q0
  obtain rfl := Nat.eq_of_beq_eq_true q1
  obtain rfl := Nat.eq_of_beq_eq_true q2
  obtain rfl := Nat.eq_of_beq_eq_true q3
  obtain rfl := Nat.eq_of_beq_eq_true q4
  obtain rfl := Nat.eq_of_beq_eq_true q5
  cases h2
  exact con11 _ _ _ _ _ _ _ _ _ _ _ _ hp
noncomputable def e8q (args : List AV) (rows : List Blk) : Option (Bool × AV × List Blk) := match args, rows with
  | [], [] => some (true, .b true, [])
  | _, _ => none
theorem e8q_ok (args : List AV) (rows : List Blk) (pre : Bool) (v : AV) (rows' : List Blk) (h : e8q args rows = some (pre, v, rows')) (hp : pre = true) : Con Try.prog 8 args rows v rows' := by
  unfold e8q at h
  split at h
  · cases h; exact lives_con
  · cases h
noncomputable def SL (V : Lq) : Ev.Spec := insS 11 (e11q V) (insS 10 (e10q V) (insS 9 (e9q V) (insS 8 e8q (insS 7 (e7q V) S0))))
theorem SL_ok {V : Lq} (hV : V = Q0) : SpecOK Try.prog (SL V) := insS_ok (e11q_ok hV) (insS_ok (e10q_ok hV) (insS_ok (e9q_ok hV) (insS_ok e8q_ok (insS_ok (e7q_ok hV) S0_ok))))
end Go.Proofs.Ytoglnllbopcejaa

set_option maxRecDepth 100000
set_option maxHeartbeats 0
set_option linter.unusedVariables false
namespace Go.Proofs.Ytoglnllbopcejaa
open Go Go.Ev

noncomputable def c3 : Code := match Try.f3.body with | some c => c | _ => .skip
noncomputable def t3 (V : Lq) (os hs : List (List AV)) (st tl th : Int) (ms : List (List AV)) (u v rd wr : Int) : Tr ((Bool)) :=
  .cn (V.g7 os hs st tl th ms) (.cn (V.w7 os hs st tl th ms) (.lf (true)) (.cn (V.g9 os hs st tl th ms u v rd wr) (.cn (V.g10 os hs st tl th ms u v rd wr) (.cn (V.g11 (V.p9 os hs st tl th ms u v rd wr).fst (V.p9 os hs st tl th ms u v rd wr).snd.fst (V.p9 os hs st tl th ms u v rd wr).snd.snd.fst (V.p9 os hs st tl th ms u v rd wr).snd.snd.snd.fst (V.p9 os hs st tl th ms u v rd wr).snd.snd.snd.snd.fst (V.p9 os hs st tl th ms u v rd wr).snd.snd.snd.snd.snd.fst (V.p10 os hs st tl th ms u v rd wr).fst (V.p10 os hs st tl th ms u v rd wr).snd.fst (V.p10 os hs st tl th ms u v rd wr).snd.snd.fst (V.p10 os hs st tl th ms u v rd wr).snd.snd.snd.fst (V.p10 os hs st tl th ms u v rd wr).snd.snd.snd.snd.fst (V.p10 os hs st tl th ms u v rd wr).snd.snd.snd.snd.snd.fst) (.cn (V.w11 (V.p9 os hs st tl th ms u v rd wr).fst (V.p9 os hs st tl th ms u v rd wr).snd.fst (V.p9 os hs st tl th ms u v rd wr).snd.snd.fst (V.p9 os hs st tl th ms u v rd wr).snd.snd.snd.fst (V.p9 os hs st tl th ms u v rd wr).snd.snd.snd.snd.fst (V.p9 os hs st tl th ms u v rd wr).snd.snd.snd.snd.snd.fst (V.p10 os hs st tl th ms u v rd wr).fst (V.p10 os hs st tl th ms u v rd wr).snd.fst (V.p10 os hs st tl th ms u v rd wr).snd.snd.fst (V.p10 os hs st tl th ms u v rd wr).snd.snd.snd.fst (V.p10 os hs st tl th ms u v rd wr).snd.snd.snd.snd.fst (V.p10 os hs st tl th ms u v rd wr).snd.snd.snd.snd.snd.fst) (.cn ((V.p9 os hs st tl th ms u v rd wr).snd.snd.snd.snd.snd.snd == (V.p10 os hs st tl th ms u v rd wr).snd.snd.snd.snd.snd.snd) (.lf (true)) (.lf (false))) (.lf (false))) (.nn)) (.nn)) (.nn))) (.nn)
noncomputable def g3 (V : Lq) (os hs : List (List AV)) (st tl th : Int) (ms : List (List AV)) (u v rd wr : Int) : Bool := (t3 V os hs st tl th ms u v rd wr).g
noncomputable def w3_0 (V : Lq) (os hs : List (List AV)) (st tl th : Int) (ms : List (List AV)) (u v rd wr : Int) : Bool := (t3 V os hs st tl th ms u v rd wr).val
noncomputable def e3 (args : List AV) (rows : List Blk) : Option (Bool × AV × List Blk) := match args, rows with
  | [.agg [.rs 32 os, .rs 55 hs, .i .i64 st, .i .i64 tl, .i .i64 th, .rs 67 ms], .agg [.i .i64 u, .i .i64 v], .i .i64 rd, .i .i64 wr], [] => some (g3 Q0 os hs st tl th ms u v rd wr, .b (w3_0 Q0 os hs st tl th ms u v rd wr), [])
  | _, _ => none
-- SPEC 3
end Go.Proofs.Ytoglnllbopcejaa

set_option maxRecDepth 100000
set_option linter.unusedVariables false
namespace Go.Proofs.Ytoglnllbopcejaa
open Go Go.Ev
theorem pt_of {a : AV} (h : TyArg Try.prog 32 a) : ∃ u v, a = .agg [.i .i64 u, .i .i64 v] ∧ (IntKind.i64.min ≤ u ∧ u ≤ IntKind.i64.max) ∧ IntKind.i64.min ≤ v ∧ v ≤ IntKind.i64.max := by
  obtain ⟨bs, rfl, hw⟩ := ty_agg (c := [.int .i64, .int .i64]) (by kernel_rfl) (by kernel_rfl) h
  obtain ⟨b0, q0, rfl, w0, hw⟩ := WTs_cons hw
  obtain ⟨b1, q1, rfl, w1, hw⟩ := WTs_cons hw
  obtain rfl := WTs_nil hw
  obtain ⟨u, rfl, r1⟩ := WT_int w0
  obtain ⟨v, rfl, r2⟩ := WT_int w1
  exact ⟨u, v, rfl, r1, r2⟩
theorem plain_rows {os : List (List AV)} (h : ∀ x, x ∈ os → ∃ u v, x = [.i .i64 u, .i .i64 v] ∧ (IntKind.i64.min ≤ u ∧ u ≤ IntKind.i64.max) ∧ (IntKind.i64.min ≤ v ∧ v ≤ IntKind.i64.max)) : (sidesX os).all (fun x => plainL (encS x)) = true := by
  have key : ∀ i k, IntKind.i64.min ≤ fI (os.getD i []) k ∧ fI (os.getD i []) k ≤ IntKind.i64.max := by
    intro i k
    by_cases hi : i < os.length
    · obtain ⟨u, v, e, hu, hv⟩ := h (os.getD i []) (by simp [List.getD_eq_getElem?_getD, List.getElem?_eq_getElem hi])
      rw [e]
      match k with
      | 0 => exact hu
      | 1 => exact hv
      | k + 2 =>
        rw [show fI [AV.i .i64 u, AV.i .i64 v] (k + 2) = 0 from rfl]
        decide
    · rw [show os.getD i [] = [] by simp [List.getD_eq_getElem?_getD, List.getElem?_eq_none (show os.length ≤ i by omega)]]
      rw [show fI [] k = 0 from rfl]
      decide
  refine List.all_eq_true.2 fun x hx => ?_
  obtain ⟨i, _, rfl⟩ := List.mem_map.1 hx
  have p : ∀ i k, plain (.i .i64 (fI (os.getD i []) k)) = true := fun i k => by
    have := key i k
    simp only [plain, Bool.and_eq_true, decide_eq_true_eq]
    exact this
  generalize (i + 1) % os.length = j
  show ((plain (.i .i64 (fI (os.getD i []) 0)) && (plain (.i .i64 (fI (os.getD i []) 1)) && (plain (.i .i64 (fI (os.getD j []) 0)) && (plain (.i .i64 (fI (os.getD j []) 1)) && true)))) && true) = true
  rw [p, p, p, p]
  rfl
def plainS (os : List (List AV)) : Prop := (sidesX os).all (fun x => plainL (encS x)) = true
theorem skin_of {a : AV} (h : TyArg Try.prog 30 a) : ∃ os hs st tl th L, a = .agg [.rs 32 os, .rs 55 hs, .i .i64 st, .i .i64 tl, .i .i64 th, .rs 67 (List.map en L)] ∧ plainS os := by
  obtain ⟨bs, rfl, hw⟩ := ty_agg (c := [.sl 32, .sl 55, .int .i64, .int .i64, .int .i64, .sl 67]) (by kernel_rfl) (by kernel_rfl) h
  obtain ⟨b0, q0, rfl, w0, hw⟩ := WTs_cons hw
  obtain ⟨b1, q1, rfl, w1, hw⟩ := WTs_cons hw
  obtain ⟨b2, q2, rfl, w2, hw⟩ := WTs_cons hw
  obtain ⟨b3, q3, rfl, w3, hw⟩ := WTs_cons hw
  obtain ⟨b4, q4, rfl, w4, hw⟩ := WTs_cons hw
  obtain ⟨b5, q5, rfl, w5, hw⟩ := WTs_cons hw
  obtain rfl := WTs_nil hw
  obtain ⟨os, rfl, o1, o2, o3⟩ := WT_sl w0
  obtain ⟨hs, rfl, _⟩ := WT_sl w1
  obtain ⟨st, rfl, _⟩ := WT_int w2
  obtain ⟨tl, rfl, _⟩ := WT_int w3
  obtain ⟨th, rfl, _⟩ := WT_int w4
  obtain ⟨ms, rfl, m1, m2, m3⟩ := WT_sl w5
  have hm : (ms.map fun e => (⟨fI e 0, fI e 1, fI e 2, fI e 3⟩ : Mk)).map en = ms := by
    rw [List.map_map]
    conv => rhs; rw [← List.map_id ms]
    refine List.map_congr_left fun x hx => ?_
    have e : cts Try.prog 67 = [.int .i64, .int .i64, .int .i64, .int .i64] := by kernel_rfl
    have hl := m2 x hx
    have hc := m3 x hx
    rw [e] at hl hc
    match x, hl with
    | [a, b, c, d], _ =>
      obtain ⟨x0, rfl, _⟩ := WT_int (show WT Try.prog (.int .i64) a from hc 0 (by simp))
      obtain ⟨x1, rfl, _⟩ := WT_int (show WT Try.prog (.int .i64) b from hc 1 (by simp))
      obtain ⟨x2, rfl, _⟩ := WT_int (show WT Try.prog (.int .i64) c from hc 2 (by simp))
      obtain ⟨x3, rfl, _⟩ := WT_int (show WT Try.prog (.int .i64) d from hc 3 (by simp))
      rfl
  refine ⟨os, hs, st, tl, th, ms.map fun e => (⟨fI e 0, fI e 1, fI e 2, fI e 3⟩ : Mk), by rw [hm], plain_rows fun x hx => ?_⟩
  have e : cts Try.prog 32 = [.int .i64, .int .i64] := by kernel_rfl
  have hl := o2 x hx
  have hc := o3 x hx
  rw [e] at hl hc
  match x, hl with
  | [a, b], _ =>
    obtain ⟨u, rfl, u1⟩ := WT_int (show WT Try.prog (.int .i64) a from hc 0 (by simp))
    obtain ⟨v, rfl, v1⟩ := WT_int (show WT Try.prog (.int .i64) b from hc 1 (by simp))
    exact ⟨u, v, rfl, u1, v1⟩
theorem great_len {os hs ms : List (List AV)} (h : greatB os hs ms = false) : os.length ≤ 30 ∧ hs.length ≤ 30 ∧ ms.length ≤ 60 := by
  unfold greatB at h
  rw [Bool.or_eq_false_iff, Bool.or_eq_false_iff, Bool.or_eq_false_iff] at h
  have h1 := of_decide_eq_false h.1
  have h2 := of_decide_eq_false h.2.1
  have h3 := of_decide_eq_false h.2.2.1
  omega
theorem okS_of {os : List (List AV)} (h : plainS os) (hl : os.length ≤ 30) : okS os = true := by
  unfold okS
  rw [show (sidesX os).all (fun x => plainL (encS x)) = true from h, Nat.ble_eq_true_of_le (show os.length ≤ 9223372036854775806 by omega)]
  rfl

end Go.Proofs.Ytoglnllbopcejaa

set_option maxRecDepth 100000
set_option linter.unusedVariables false
namespace Go.Proofs.Ytoglnllbopcejaa
open Go Go.Ev
structure Ln where
  q : Lq
  g13 : List (List AV) → List (List AV) → Int → Int → Int → List (List AV) → Int → Int → Bool
  p13 : List (List AV) → List (List AV) → Int → Int → Int → List (List AV) → Int → Int → Int × Int × Int
noncomputable def N0 : Ln := ⟨Q0, g13, fun os hs st tl th ms u v => (t13 os hs st tl th ms u v).val⟩
noncomputable def e13q (V : Ln) (args : List AV) (rows : List Blk) : Option (Bool × AV × List Blk) := match args, rows with
  | [.agg [.rs a os, .rs b hs, .i .i64 st, .i .i64 tl, .i .i64 th, .rs c ms], .agg [.i .i64 u, .i .i64 v]], [] => cond (Nat.beq a 32 && (Nat.beq b 55 && Nat.beq c 67)) (some (V.g13 os hs st tl th ms u v, .tup [.agg [.i .i64 (V.p13 os hs st tl th ms u v).1, .i .i64 (V.p13 os hs st tl th ms u v).2.1], .i .i64 (V.p13 os hs st tl th ms u v).2.2], [])) none
  | _, _ => none
theorem e13q_ok {V : Ln} (hV : V = N0) (args : List AV) (rows : List Blk) (pre : Bool) (v : AV) (rows' : List Blk) (h : e13q V args rows = some (pre, v, rows')) (hp : pre = true) : Con Try.prog 13 args rows v rows' := by
  subst hV
  unfold e13q at h
  split at h <;> first | (cases h; done) | skip
  obtain ⟨h1, h2⟩ := cond_some2 h
  clear h
  simp only [Bool.and_eq_true] at h1
  obtain ⟨q0, q1, q2⟩ := h1
  obtain rfl := Nat.eq_of_beq_eq_true q0
  obtain rfl := Nat.eq_of_beq_eq_true q1
  obtain rfl := Nat.eq_of_beq_eq_true q2
  cases h2
  exact con13 _ _ _ _ _ _ _ _ hp
noncomputable def SN (V : Ln) : Ev.Spec := insS 13 (e13q V) (SL V.q)
theorem SN_ok {V : Ln} (hV : V = N0) : SpecOK Try.prog (SN V) := insS_ok (e13q_ok hV) (SL_ok (hV ▸ rfl))
end Go.Proofs.Ytoglnllbopcejaa

set_option maxRecDepth 100000
set_option maxHeartbeats 0
set_option linter.unusedVariables false
namespace Go.Proofs.Ytoglnllbopcejaa
open Go Go.Ev

noncomputable def c5 : Code := match Try.f5.body with | some c => c | _ => .skip
theorem lok5 {V : Ln} : LOK Try.prog (SN V) (ro 5) (fun _ _ => none) 0 false c5 [] :=
  lok_lo (fun _ _ _ _ _ _ _ h _ => by cases h) c5 [] false (locate_nil _) (by kernel_rfl)
noncomputable def t5 (V : Ln) (os hs : List (List AV)) (st tl th : Int) (ms : List (List AV)) (xu xv xr xw u v : Int) : Tr ((Bool)) :=
  .cn (V.q.g7 os hs st tl th ms) (.cn (V.q.w7 os hs st tl th ms) (.lf (true)) (.cn (V.q.g9 os hs st tl th ms xu xv xr xw) (.cn ((V.q.p9 os hs st tl th ms xu xv xr xw).snd.snd.snd.snd.snd.snd != 0) (.cn (V.q.g11 (V.q.p9 os hs st tl th ms xu xv xr xw).fst (V.q.p9 os hs st tl th ms xu xv xr xw).snd.fst (V.q.p9 os hs st tl th ms xu xv xr xw).snd.snd.fst (V.q.p9 os hs st tl th ms xu xv xr xw).snd.snd.snd.fst (V.q.p9 os hs st tl th ms xu xv xr xw).snd.snd.snd.snd.fst (V.q.p9 os hs st tl th ms xu xv xr xw).snd.snd.snd.snd.snd.fst [] [] 0 0 0 []) (.cn (V.q.w11 (V.q.p9 os hs st tl th ms xu xv xr xw).fst (V.q.p9 os hs st tl th ms xu xv xr xw).snd.fst (V.q.p9 os hs st tl th ms xu xv xr xw).snd.snd.fst (V.q.p9 os hs st tl th ms xu xv xr xw).snd.snd.snd.fst (V.q.p9 os hs st tl th ms xu xv xr xw).snd.snd.snd.snd.fst (V.q.p9 os hs st tl th ms xu xv xr xw).snd.snd.snd.snd.snd.fst [] [] 0 0 0 []) (.lf (true)) (.lf (false))) (.nn)) (.cn (V.q.g9 (V.q.p9 os hs st tl th ms xu xv xr xw).fst (V.q.p9 os hs st tl th ms xu xv xr xw).snd.fst (V.q.p9 os hs st tl th ms xu xv xr xw).snd.snd.fst (V.q.p9 os hs st tl th ms xu xv xr xw).snd.snd.snd.fst (V.q.p9 os hs st tl th ms xu xv xr xw).snd.snd.snd.snd.fst (V.q.p9 os hs st tl th ms xu xv xr xw).snd.snd.snd.snd.snd.fst xu xv xr xw) (.cn ((V.q.p9 (V.q.p9 os hs st tl th ms xu xv xr xw).fst (V.q.p9 os hs st tl th ms xu xv xr xw).snd.fst (V.q.p9 os hs st tl th ms xu xv xr xw).snd.snd.fst (V.q.p9 os hs st tl th ms xu xv xr xw).snd.snd.snd.fst (V.q.p9 os hs st tl th ms xu xv xr xw).snd.snd.snd.snd.fst (V.q.p9 os hs st tl th ms xu xv xr xw).snd.snd.snd.snd.snd.fst xu xv xr xw).snd.snd.snd.snd.snd.snd != 0) (.lf (false)) (.cn (V.q.g11 (V.q.p9 os hs st tl th ms xu xv xr xw).fst (V.q.p9 os hs st tl th ms xu xv xr xw).snd.fst (V.q.p9 os hs st tl th ms xu xv xr xw).snd.snd.fst (V.q.p9 os hs st tl th ms xu xv xr xw).snd.snd.snd.fst (V.q.p9 os hs st tl th ms xu xv xr xw).snd.snd.snd.snd.fst (V.q.p9 os hs st tl th ms xu xv xr xw).snd.snd.snd.snd.snd.fst (V.q.p9 (V.q.p9 os hs st tl th ms xu xv xr xw).fst (V.q.p9 os hs st tl th ms xu xv xr xw).snd.fst (V.q.p9 os hs st tl th ms xu xv xr xw).snd.snd.fst (V.q.p9 os hs st tl th ms xu xv xr xw).snd.snd.snd.fst (V.q.p9 os hs st tl th ms xu xv xr xw).snd.snd.snd.snd.fst (V.q.p9 os hs st tl th ms xu xv xr xw).snd.snd.snd.snd.snd.fst xu xv xr xw).fst (V.q.p9 (V.q.p9 os hs st tl th ms xu xv xr xw).fst (V.q.p9 os hs st tl th ms xu xv xr xw).snd.fst (V.q.p9 os hs st tl th ms xu xv xr xw).snd.snd.fst (V.q.p9 os hs st tl th ms xu xv xr xw).snd.snd.snd.fst (V.q.p9 os hs st tl th ms xu xv xr xw).snd.snd.snd.snd.fst (V.q.p9 os hs st tl th ms xu xv xr xw).snd.snd.snd.snd.snd.fst xu xv xr xw).snd.fst (V.q.p9 (V.q.p9 os hs st tl th ms xu xv xr xw).fst (V.q.p9 os hs st tl th ms xu xv xr xw).snd.fst (V.q.p9 os hs st tl th ms xu xv xr xw).snd.snd.fst (V.q.p9 os hs st tl th ms xu xv xr xw).snd.snd.snd.fst (V.q.p9 os hs st tl th ms xu xv xr xw).snd.snd.snd.snd.fst (V.q.p9 os hs st tl th ms xu xv xr xw).snd.snd.snd.snd.snd.fst xu xv xr xw).snd.snd.fst (V.q.p9 (V.q.p9 os hs st tl th ms xu xv xr xw).fst (V.q.p9 os hs st tl th ms xu xv xr xw).snd.fst (V.q.p9 os hs st tl th ms xu xv xr xw).snd.snd.fst (V.q.p9 os hs st tl th ms xu xv xr xw).snd.snd.snd.fst (V.q.p9 os hs st tl th ms xu xv xr xw).snd.snd.snd.snd.fst (V.q.p9 os hs st tl th ms xu xv xr xw).snd.snd.snd.snd.snd.fst xu xv xr xw).snd.snd.snd.fst (V.q.p9 (V.q.p9 os hs st tl th ms xu xv xr xw).fst (V.q.p9 os hs st tl th ms xu xv xr xw).snd.fst (V.q.p9 os hs st tl th ms xu xv xr xw).snd.snd.fst (V.q.p9 os hs st tl th ms xu xv xr xw).snd.snd.snd.fst (V.q.p9 os hs st tl th ms xu xv xr xw).snd.snd.snd.snd.fst (V.q.p9 os hs st tl th ms xu xv xr xw).snd.snd.snd.snd.snd.fst xu xv xr xw).snd.snd.snd.snd.fst (V.q.p9 (V.q.p9 os hs st tl th ms xu xv xr xw).fst (V.q.p9 os hs st tl th ms xu xv xr xw).snd.fst (V.q.p9 os hs st tl th ms xu xv xr xw).snd.snd.fst (V.q.p9 os hs st tl th ms xu xv xr xw).snd.snd.snd.fst (V.q.p9 os hs st tl th ms xu xv xr xw).snd.snd.snd.snd.fst (V.q.p9 os hs st tl th ms xu xv xr xw).snd.snd.snd.snd.snd.fst xu xv xr xw).snd.snd.snd.snd.snd.fst) (.cn (!V.q.w11 (V.q.p9 os hs st tl th ms xu xv xr xw).fst (V.q.p9 os hs st tl th ms xu xv xr xw).snd.fst (V.q.p9 os hs st tl th ms xu xv xr xw).snd.snd.fst (V.q.p9 os hs st tl th ms xu xv xr xw).snd.snd.snd.fst (V.q.p9 os hs st tl th ms xu xv xr xw).snd.snd.snd.snd.fst (V.q.p9 os hs st tl th ms xu xv xr xw).snd.snd.snd.snd.snd.fst (V.q.p9 (V.q.p9 os hs st tl th ms xu xv xr xw).fst (V.q.p9 os hs st tl th ms xu xv xr xw).snd.fst (V.q.p9 os hs st tl th ms xu xv xr xw).snd.snd.fst (V.q.p9 os hs st tl th ms xu xv xr xw).snd.snd.snd.fst (V.q.p9 os hs st tl th ms xu xv xr xw).snd.snd.snd.snd.fst (V.q.p9 os hs st tl th ms xu xv xr xw).snd.snd.snd.snd.snd.fst xu xv xr xw).fst (V.q.p9 (V.q.p9 os hs st tl th ms xu xv xr xw).fst (V.q.p9 os hs st tl th ms xu xv xr xw).snd.fst (V.q.p9 os hs st tl th ms xu xv xr xw).snd.snd.fst (V.q.p9 os hs st tl th ms xu xv xr xw).snd.snd.snd.fst (V.q.p9 os hs st tl th ms xu xv xr xw).snd.snd.snd.snd.fst (V.q.p9 os hs st tl th ms xu xv xr xw).snd.snd.snd.snd.snd.fst xu xv xr xw).snd.fst (V.q.p9 (V.q.p9 os hs st tl th ms xu xv xr xw).fst (V.q.p9 os hs st tl th ms xu xv xr xw).snd.fst (V.q.p9 os hs st tl th ms xu xv xr xw).snd.snd.fst (V.q.p9 os hs st tl th ms xu xv xr xw).snd.snd.snd.fst (V.q.p9 os hs st tl th ms xu xv xr xw).snd.snd.snd.snd.fst (V.q.p9 os hs st tl th ms xu xv xr xw).snd.snd.snd.snd.snd.fst xu xv xr xw).snd.snd.fst (V.q.p9 (V.q.p9 os hs st tl th ms xu xv xr xw).fst (V.q.p9 os hs st tl th ms xu xv xr xw).snd.fst (V.q.p9 os hs st tl th ms xu xv xr xw).snd.snd.fst (V.q.p9 os hs st tl th ms xu xv xr xw).snd.snd.snd.fst (V.q.p9 os hs st tl th ms xu xv xr xw).snd.snd.snd.snd.fst (V.q.p9 os hs st tl th ms xu xv xr xw).snd.snd.snd.snd.snd.fst xu xv xr xw).snd.snd.snd.fst (V.q.p9 (V.q.p9 os hs st tl th ms xu xv xr xw).fst (V.q.p9 os hs st tl th ms xu xv xr xw).snd.fst (V.q.p9 os hs st tl th ms xu xv xr xw).snd.snd.fst (V.q.p9 os hs st tl th ms xu xv xr xw).snd.snd.snd.fst (V.q.p9 os hs st tl th ms xu xv xr xw).snd.snd.snd.snd.fst (V.q.p9 os hs st tl th ms xu xv xr xw).snd.snd.snd.snd.snd.fst xu xv xr xw).snd.snd.snd.snd.fst (V.q.p9 (V.q.p9 os hs st tl th ms xu xv xr xw).fst (V.q.p9 os hs st tl th ms xu xv xr xw).snd.fst (V.q.p9 os hs st tl th ms xu xv xr xw).snd.snd.fst (V.q.p9 os hs st tl th ms xu xv xr xw).snd.snd.snd.fst (V.q.p9 os hs st tl th ms xu xv xr xw).snd.snd.snd.snd.fst (V.q.p9 os hs st tl th ms xu xv xr xw).snd.snd.snd.snd.snd.fst xu xv xr xw).snd.snd.snd.snd.snd.fst) (.lf (false)) (.cn (V.g13 (V.q.p9 os hs st tl th ms xu xv xr xw).fst (V.q.p9 os hs st tl th ms xu xv xr xw).snd.fst (V.q.p9 os hs st tl th ms xu xv xr xw).snd.snd.fst (V.q.p9 os hs st tl th ms xu xv xr xw).snd.snd.snd.fst (V.q.p9 os hs st tl th ms xu xv xr xw).snd.snd.snd.snd.fst (V.q.p9 os hs st tl th ms xu xv xr xw).snd.snd.snd.snd.snd.fst xu xv) (.cn ((V.p13 (V.q.p9 os hs st tl th ms xu xv xr xw).fst (V.q.p9 os hs st tl th ms xu xv xr xw).snd.fst (V.q.p9 os hs st tl th ms xu xv xr xw).snd.snd.fst (V.q.p9 os hs st tl th ms xu xv xr xw).snd.snd.snd.fst (V.q.p9 os hs st tl th ms xu xv xr xw).snd.snd.snd.snd.fst (V.q.p9 os hs st tl th ms xu xv xr xw).snd.snd.snd.snd.snd.fst xu xv).snd.snd != 0) (.lf (false)) (.cn (decide ((V.p13 (V.q.p9 os hs st tl th ms xu xv xr xw).fst (V.q.p9 os hs st tl th ms xu xv xr xw).snd.fst (V.q.p9 os hs st tl th ms xu xv xr xw).snd.snd.fst (V.q.p9 os hs st tl th ms xu xv xr xw).snd.snd.snd.fst (V.q.p9 os hs st tl th ms xu xv xr xw).snd.snd.snd.snd.fst (V.q.p9 os hs st tl th ms xu xv xr xw).snd.snd.snd.snd.snd.fst xu xv).fst < IntKind.i64.wrap (xr - xw))) (.lf (false)) (.cn (decide ((V.p13 (V.q.p9 os hs st tl th ms xu xv xr xw).fst (V.q.p9 os hs st tl th ms xu xv xr xw).snd.fst (V.q.p9 os hs st tl th ms xu xv xr xw).snd.snd.fst (V.q.p9 os hs st tl th ms xu xv xr xw).snd.snd.snd.fst (V.q.p9 os hs st tl th ms xu xv xr xw).snd.snd.snd.snd.fst (V.q.p9 os hs st tl th ms xu xv xr xw).snd.snd.snd.snd.snd.fst xu xv).snd.fst > IntKind.i64.wrap (xr + xw))) (.lf (false)) (.cn (decide ((V.p13 (V.q.p9 os hs st tl th ms xu xv xr xw).fst (V.q.p9 os hs st tl th ms xu xv xr xw).snd.fst (V.q.p9 os hs st tl th ms xu xv xr xw).snd.snd.fst (V.q.p9 os hs st tl th ms xu xv xr xw).snd.snd.snd.fst (V.q.p9 os hs st tl th ms xu xv xr xw).snd.snd.snd.snd.fst (V.q.p9 os hs st tl th ms xu xv xr xw).snd.snd.snd.snd.snd.fst xu xv).fst > (V.p13 (V.q.p9 os hs st tl th ms xu xv xr xw).fst (V.q.p9 os hs st tl th ms xu xv xr xw).snd.fst (V.q.p9 os hs st tl th ms xu xv xr xw).snd.snd.fst (V.q.p9 os hs st tl th ms xu xv xr xw).snd.snd.snd.fst (V.q.p9 os hs st tl th ms xu xv xr xw).snd.snd.snd.snd.fst (V.q.p9 os hs st tl th ms xu xv xr xw).snd.snd.snd.snd.snd.fst xu xv).snd.fst)) (.lf (false)) (.cn (V.g13 os hs st tl th ms u v) (.cn (V.g13 (V.q.p9 os hs st tl th ms xu xv xr xw).fst (V.q.p9 os hs st tl th ms xu xv xr xw).snd.fst (V.q.p9 os hs st tl th ms xu xv xr xw).snd.snd.fst (V.q.p9 os hs st tl th ms xu xv xr xw).snd.snd.snd.fst (V.q.p9 os hs st tl th ms xu xv xr xw).snd.snd.snd.snd.fst (V.q.p9 os hs st tl th ms xu xv xr xw).snd.snd.snd.snd.snd.fst u v) (.cn ((V.p13 os hs st tl th ms u v).snd.snd == (V.p13 (V.q.p9 os hs st tl th ms xu xv xr xw).fst (V.q.p9 os hs st tl th ms xu xv xr xw).snd.fst (V.q.p9 os hs st tl th ms xu xv xr xw).snd.snd.fst (V.q.p9 os hs st tl th ms xu xv xr xw).snd.snd.snd.fst (V.q.p9 os hs st tl th ms xu xv xr xw).snd.snd.snd.snd.fst (V.q.p9 os hs st tl th ms xu xv xr xw).snd.snd.snd.snd.snd.fst u v).snd.snd) (.cn ((V.p13 os hs st tl th ms u v).snd.snd != 0) (.lf (true)) (.cn (decide ((V.p13 (V.q.p9 os hs st tl th ms xu xv xr xw).fst (V.q.p9 os hs st tl th ms xu xv xr xw).snd.fst (V.q.p9 os hs st tl th ms xu xv xr xw).snd.snd.fst (V.q.p9 os hs st tl th ms xu xv xr xw).snd.snd.snd.fst (V.q.p9 os hs st tl th ms xu xv xr xw).snd.snd.snd.snd.fst (V.q.p9 os hs st tl th ms xu xv xr xw).snd.snd.snd.snd.snd.fst u v).fst ≥ (V.p13 os hs st tl th ms u v).fst)) (.cn (decide ((V.p13 (V.q.p9 os hs st tl th ms xu xv xr xw).fst (V.q.p9 os hs st tl th ms xu xv xr xw).snd.fst (V.q.p9 os hs st tl th ms xu xv xr xw).snd.snd.fst (V.q.p9 os hs st tl th ms xu xv xr xw).snd.snd.snd.fst (V.q.p9 os hs st tl th ms xu xv xr xw).snd.snd.snd.snd.fst (V.q.p9 os hs st tl th ms xu xv xr xw).snd.snd.snd.snd.snd.fst u v).snd.fst ≤ (V.p13 os hs st tl th ms u v).snd.fst)) (.lf (true)) (.lf (false))) (.lf (false)))) (.lf (false))) (.nn)) (.nn)))))) (.nn))) (.nn))) (.nn))) (.nn))) (.nn)
noncomputable def g5 (V : Ln) (os hs : List (List AV)) (st tl th : Int) (ms : List (List AV)) (xu xv xr xw u v : Int) : Bool := (t5 V os hs st tl th ms xu xv xr xw u v).g
noncomputable def w5_0 (V : Ln) (os hs : List (List AV)) (st tl th : Int) (ms : List (List AV)) (xu xv xr xw u v : Int) : Bool := (t5 V os hs st tl th ms xu xv xr xw u v).val
theorem eq5 (V : Ln) (os hs : List (List AV)) (st tl th : Int) (ms : List (List AV)) (xu xv xr xw u v : Int) : evF Try.prog (SN V) (ro 5) (fun _ _ => none) Try.f5 [.agg [.rs 32 os, .rs 55 hs, .i .i64 st, .i .i64 tl, .i .i64 th, .rs 67 ms], .agg [.i .i64 xu, .i .i64 xv, .i .i64 xr, .i .i64 xw], .agg [.i .i64 u, .i .i64 v]] = (t5 V os hs st tl th ms xu xv xr xw u v).opt (fun (x : (Bool)) => (.b x : AV)) := by kernel_rfl
theorem con5 {V : Ln} (hV : V = N0) (os hs : List (List AV)) (st tl th : Int) (ms : List (List AV)) (xu xv xr xw u v : Int) (h : g5 V os hs st tl th ms xu xv xr xw u v = true) : Con Try.prog 5 [.agg [.rs 32 os, .rs 55 hs, .i .i64 st, .i .i64 tl, .i .i64 th, .rs 67 ms], .agg [.i .i64 xu, .i .i64 xv, .i .i64 xr, .i .i64 xw], .agg [.i .i64 u, .i .i64 v]] [] (.b (w5_0 V os hs st tl th ms xu xv xr xw u v)) [] :=
  con_of (SN_ok hV) mixed Try.func5 (c := c5) rfl (names 5 _ Try.func5) lok5 ((eq5 V os hs st tl th ms xu xv xr xw u v).trans (Tr.sound _ _ h))
noncomputable def e5 (args : List AV) (rows : List Blk) : Option (Bool × AV × List Blk) := match args, rows with
  | [.agg [.rs 32 os, .rs 55 hs, .i .i64 st, .i .i64 tl, .i .i64 th, .rs 67 ms], .agg [.i .i64 xu, .i .i64 xv, .i .i64 xr, .i .i64 xw], .agg [.i .i64 u, .i .i64 v]], [] => some (g5 N0 os hs st tl th ms xu xv xr xw u v, .b (w5_0 N0 os hs st tl th ms xu xv xr xw u v), [])
  | _, _ => none
-- SPEC 5
end Go.Proofs.Ytoglnllbopcejaa

set_option maxRecDepth 100000
set_option linter.unusedVariables false
namespace Go.Proofs.Ytoglnllbopcejaa
open Go Go.Ev
def loX (st tl : Int) (L : List Mk) (u v : Int) : Int := (L.map en).foldl (loI st u v) tl
def hiX (st th : Int) (L : List Mk) (u v : Int) : Int := (L.map en).foldl (hiI st u v) th
def boundsX (os hs : List (List AV)) (st tl th : Int) (L : List Mk) (u v : Int) : Int × Int × Int :=
  cond (checkW os hs (L.map en) st tl th != 0) (0, 0, checkW os hs (L.map en) st tl th) (cond (!hasB os hs u v) (0, 0, 7) (loX st tl L u v, hiX st th L u v, 0))
theorem k13 (os hs : List (List AV)) (st tl th : Int) (L : List Mk) (u v : Int) (ho : okS os = true) : g13 os hs st tl th (L.map en) u v = true ∧ (t13 os hs st tl th (L.map en) u v).val = boundsX os hs st tl th L u v := by
  refine TrP.ok (t := t13 os hs st tl th (L.map en) u v) (p := fun x => x = boundsX os hs st tl th L u v) ?_
  unfold t13 boundsX
  refine .t (k15 os hs st tl th _ ho).1 ?_
  rw [(k15 os hs st tl th _ ho).2]
  cases hc : checkW os hs (L.map en) st tl th != 0
  · have hF := check_fine.1 (by simpa using hc : checkW os hs (L.map en) st tl th = 0)
    have h6 := hF.six
    have h40 := hF.len
    refine .f rfl (.t (k21 os hs u v ho (by omega)).1 ?_)
    rw [(k21 os hs u v ho (by omega)).2]
    cases hasB os hs u v
    · exact .t rfl rfl
    · have hm : (L.map en).length < 9223372036854775807 := by rw [List.length_map]; omega
      have h3 := k33 os hs st tl th (L.map en) u v hm
      refine .f rfl (.t h3.1 ?_)
      rw [h3.2.1, h3.2.2]
      rfl
  · exact .t rfl rfl
section
variable {os hs : List (List AV)} {st tl th : Int} {L : List Mk}
theorem loX_ge (hF : Fine os hs st tl th L) {u v : Int} (hu : In4 u) (hv : In4 v) : tl ≤ loX st tl L u v ∧ ∀ m, m ∈ L → m.lo - st * farX u v m.u m.v ≤ loX st tl L u v := by
  obtain ⟨h1, h2, _⟩ := lows (tl := tl) hF.ste hu hv (mk_all hF.marks)
  exact ⟨h1, fun m hm => h2 (en m) (List.mem_map.2 ⟨m, hm, rfl⟩)⟩
theorem loX_is (hF : Fine os hs st tl th L) {u v : Int} (hu : In4 u) (hv : In4 v) : loX st tl L u v = tl ∨ ∃ m, m ∈ L ∧ loX st tl L u v = m.lo - st * farX u v m.u m.v := by
  obtain ⟨_, _, h3⟩ := lows (tl := tl) hF.ste hu hv (mk_all hF.marks)
  rcases h3 with h3 | ⟨e, he, h3⟩
  · exact .inl h3
  · obtain ⟨m, hm, rfl⟩ := List.mem_map.1 he
    exact .inr ⟨m, hm, h3⟩
theorem hiX_le (hF : Fine os hs st tl th L) {u v : Int} (hu : In4 u) (hv : In4 v) : hiX st th L u v ≤ th ∧ ∀ m, m ∈ L → hiX st th L u v ≤ m.hi + st * farX u v m.u m.v := by
  obtain ⟨h1, h2, _⟩ := highs (th := th) hF.ste hu hv (mk_all hF.marks)
  exact ⟨h1, fun m hm => h2 (en m) (List.mem_map.2 ⟨m, hm, rfl⟩)⟩
theorem hiX_is (hF : Fine os hs st tl th L) {u v : Int} (hu : In4 u) (hv : In4 v) : hiX st th L u v = th ∨ ∃ m, m ∈ L ∧ hiX st th L u v = m.hi + st * farX u v m.u m.v := by
  obtain ⟨_, _, h3⟩ := highs (th := th) hF.ste hu hv (mk_all hF.marks)
  rcases h3 with h3 | ⟨e, he, h3⟩
  · exact .inl h3
  · obtain ⟨m, hm, rfl⟩ := List.mem_map.1 he
    exact .inr ⟨m, hm, h3⟩
theorem far_mul_nonneg (h : 0 ≤ st) (a b c d : Int) : 0 ≤ st * farX a b c d := Int.mul_nonneg h (farX_nonneg a b c d)
theorem far_mul_tri (h : 0 ≤ st) (a b c d e f : Int) : st * farX c d e f ≤ st * farX a b c d + st * farX a b e f := by
  have h1 := farX_tri c d a b e f
  rw [farX_sym c d a b] at h1
  rw [← Int.mul_add]
  exact Int.mul_le_mul_of_nonneg_left h1 h
theorem bounds_le (hF : Fine os hs st tl th L) {u v : Int} (hu : In4 u) (hv : In4 v) : loX st tl L u v ≤ hiX st th L u v := by
  have hsp := hF.sp
  rcases loX_is hF hu hv with e | ⟨m, hm, e⟩ <;> rcases hiX_is hF hu hv with e' | ⟨k, hk, e'⟩ <;> rw [e, e']
  · omega
  · have := (hF.agree k hk).2.1
    have := far_mul_nonneg hF.ste.1 u v k.u k.v
    omega
  · have := (hF.agree m hm).1
    have := far_mul_nonneg hF.ste.1 u v m.u m.v
    omega
  · have := (hF.agree m hm).2.2 k hk
    have := far_mul_tri hF.ste.1 u v m.u m.v k.u k.v
    omega
theorem narrower {M : List Mk} (hF : Fine os hs st tl th L) (hG : Fine os hs st tl th M) (h : ∀ x, x ∈ L → ∃ m, m ∈ M ∧ atP m x ∧ x.lo ≤ m.lo ∧ m.hi ≤ x.hi) {u v : Int} (hu : In4 u) (hv : In4 v) :
    loX st tl L u v ≤ loX st tl M u v ∧ hiX st th M u v ≤ hiX st th L u v := by
  obtain ⟨g1, g2⟩ := loX_ge hG hu hv
  obtain ⟨g3, g4⟩ := hiX_le hG hu hv
  constructor
  · rcases loX_is hF hu hv with e | ⟨m, hm, e⟩
    · omega
    · obtain ⟨k, hk, hat, h1, h2⟩ := h m hm
      have := g2 k hk
      rw [hat.1, hat.2] at this
      omega
  · rcases hiX_is hF hu hv with e | ⟨m, hm, e⟩
    · omega
    · obtain ⟨k, hk, hat, h1, h2⟩ := h m hm
      have := g4 k hk
      rw [hat.1, hat.2] at this
      omega
end
theorem probeX_cases (os hs : List (List AV)) (st tl th : Int) (L : List Mk) (u v rd wr : Int) : (∃ e, e ≠ 0 ∧ probeX os hs st tl th L u v rd wr = noSk e) ∨
    (probeX os hs st tl th L u v rd wr = (os, hs, st, tl, th, (insM (pr u v rd wr) L).map en, 0) ∧ Fine os hs st tl th L ∧ hasB os hs u v = true ∧ (0 ≤ rd ∧ rd ≤ 2000) ∧ (0 ≤ wr ∧ wr ≤ 2000) ∧ Fine os hs st tl th (insM (pr u v rd wr) L)) := by
  unfold probeX
  cases h1 : checkW os hs (L.map en) st tl th != 0
  · have hF := check_fine.1 (by simpa using h1 : checkW os hs (L.map en) st tl th = 0)
    cases h2 : hasB os hs u v
    · exact .inl ⟨7, by decide, rfl⟩
    · cases h3 : inB rd 0 2000
      · exact .inl ⟨1, by decide, rfl⟩
      · cases h4 : inB wr 0 2000
        · exact .inl ⟨1, by decide, rfl⟩
        · cases h5 : decide (((insM (pr u v rd wr) L).length : Int) > 40)
          · cases h6 : checkW os hs ((insM (pr u v rd wr) L).map en) st tl th != 0
            · have hG := check_fine.1 (by simpa using h6 : checkW os hs ((insM (pr u v rd wr) L).map en) st tl th = 0)
              exact .inr ⟨rfl, hF, rfl, inB_true.1 h3, inB_true.1 h4, hG⟩
            · exact .inl ⟨10, by decide, rfl⟩
          · exact .inl ⟨3, by decide, rfl⟩
  · exact .inl ⟨_, by simpa using h1, rfl⟩
theorem probeX_fine {os hs : List (List AV)} {st tl th : Int} {L : List Mk} {u v rd wr : Int} (hF : Fine os hs st tl th L) (h2 : hasB os hs u v = true) (h3 : 0 ≤ rd ∧ rd ≤ 2000) (h4 : 0 ≤ wr ∧ wr ≤ 2000) (hG : Fine os hs st tl th (insM (pr u v rd wr) L)) :
    probeX os hs st tl th L u v rd wr = (os, hs, st, tl, th, (insM (pr u v rd wr) L).map en, 0) := by
  unfold probeX
  rw [check_fine.2 hF, check_fine.2 hG, h2, inB_true.2 h3, inB_true.2 h4, show decide (((insM (pr u v rd wr) L).length : Int) > 40) = false from decide_eq_false (by have := hG.len; omega)]
  rfl
theorem boundsX_fine {os hs : List (List AV)} {st tl th : Int} {L : List Mk} {u v : Int} (hF : Fine os hs st tl th L) : boundsX os hs st tl th L u v = cond (!hasB os hs u v) (0, 0, 7) (loX st tl L u v, hiX st th L u v, 0) := by
  unfold boundsX
  rw [check_fine.2 hF]
  rfl
theorem narrower_val (os hs : List (List AV)) (st tl th : Int) (L : List Mk) (xu xv xr xw u v : Int) (hp : plainS os) : g5 N0 os hs st tl th (L.map en) xu xv xr xw u v = true ∧ w5_0 N0 os hs st tl th (L.map en) xu xv xr xw u v = true := by
  refine TrP.ok (t := t5 N0 os hs st tl th (L.map en) xu xv xr xw u v) (p := fun x => x = true) ?_
  unfold t5
  refine .t (k7 os hs st tl th _).1 ?_
  show TrP _ (.cn (w7_0 os hs st tl th (L.map en)) _ _)
  rw [(k7 os hs st tl th _).2]
  cases hg : greatB os hs (L.map en)
  · obtain ⟨l1, l2, l3⟩ := great_len hg
    have ho := okS_of hp l1
    have e9 : ∀ M, N0.q.p9 os hs st tl th (M.map en) xu xv xr xw = probeX os hs st tl th M xu xv xr xw := fun M => (k9 os hs st tl th M xu xv xr xw ho).2
    have e13 : ∀ M u v, N0.p13 os hs st tl th (M.map en) u v = boundsX os hs st tl th M u v := fun M u v => (k13 os hs st tl th M u v ho).2
    refine .f rfl (.t (k9 os hs st tl th L xu xv xr xw ho).1 ?_)
    rw [e9]
    rcases probeX_cases os hs st tl th L xu xv xr xw with ⟨e, he, hx⟩ | ⟨hx, hF, hh, hr, hw, hG⟩
    · rw [hx]
      have hs := k11_self [] [] 0 0 0 [] (by decide) (by decide) (by decide)
      exact .t (by simpa [noSk] using he) (.t hs.1 (.t hs.2 rfl))
    · rw [hx]
      simp only []
      have hx2 : probeX os hs st tl th (insM (pr xu xv xr xw) L) xu xv xr xw = (os, hs, st, tl, th, (insM (pr xu xv xr xw) L).map en, 0) := by
        rw [probeX_fine hG hh hr hw (by rw [ins_twice hF.srt]; exact hG), ins_twice hF.srt]
      have hl := hG.len
      have hs' := k11_self os hs st tl th ((insM (pr xu xv xr xw) L).map en) (by omega) (by omega) (by rw [List.length_map]; omega)
      obtain ⟨x4, y4⟩ := has_in hh
      refine .f rfl (.t (k9 os hs st tl th (insM (pr xu xv xr xw) L) xu xv xr xw ho).1 ?_)
      rw [e9, hx2]
      simp only []
      refine .f rfl (.t hs'.1 (.f (show (!w11_0 os hs st tl th ((insM (pr xu xv xr xw) L).map en) os hs st tl th ((insM (pr xu xv xr xw) L).map en)) = false by rw [hs'.2]; rfl) (.t (k13 os hs st tl th (insM (pr xu xv xr xw) L) xu xv ho).1 ?_)))
      rw [e13, e13, e13, boundsX_fine hG, hh]
      simp only [Bool.not_true, cond_false]
      obtain ⟨m, hm, hat, hm1, hm2⟩ := ins_has (p := pr xu xv xr xw) L
      have hself : farX xu xv m.u m.v = 0 := by rw [hat.1, hat.2]; exact farX_self xu xv
      have b1 := (loX_ge hG x4 y4).2 m hm
      have b2 := (hiX_le hG x4 y4).2 m hm
      rw [hself, Int.mul_zero] at b1 b2
      have b3 := bounds_le hG x4 y4
      have p1 : (pr xu xv xr xw).lo = max (xr - xw) 0 := rfl
      have p2 : (pr xu xv xr xw).hi = min (xr + xw) 2000 := rfl
      refine .f rfl (.f ?_ (.f ?_ (.f ?_ (.t (k13 os hs st tl th L u v ho).1 (.t (k13 os hs st tl th (insM (pr xu xv xr xw) L) u v ho).1 ?_)))))
      · rw [wrap64 (by omega) (by omega)]
        exact decide_eq_false (by omega)
      · rw [wrap64 (by omega) (by omega)]
        exact decide_eq_false (by omega)
      · exact decide_eq_false (by omega)
      · rw [boundsX_fine hF, boundsX_fine hG]
        cases hq : hasB os hs u v
        · exact .t rfl (.t rfl rfl)
        · obtain ⟨u4, v4⟩ := has_in hq
          obtain ⟨n1, n2⟩ := narrower hF hG (fun x hx => ins_keeps hx) u4 v4
          exact .t rfl (.f rfl (.t (decide_eq_true n1) (.t (decide_eq_true n2) rfl)))
  · exact .t rfl rfl
theorem reading_of {a : AV} (h : TyArg Try.prog 43 a) : ∃ u v rd wr, a = .agg [.i .i64 u, .i .i64 v, .i .i64 rd, .i .i64 wr] := by
  obtain ⟨bs, rfl, hw⟩ := ty_agg (c := [.int .i64, .int .i64, .int .i64, .int .i64]) (by kernel_rfl) (by kernel_rfl) h
  obtain ⟨b0, q0, rfl, w0, hw⟩ := WTs_cons hw
  obtain ⟨b1, q1, rfl, w1, hw⟩ := WTs_cons hw
  obtain ⟨b2, q2, rfl, w2, hw⟩ := WTs_cons hw
  obtain ⟨b3, q3, rfl, w3, hw⟩ := WTs_cons hw
  obtain rfl := WTs_nil hw
  obtain ⟨u, rfl, _⟩ := WT_int w0
  obtain ⟨v, rfl, _⟩ := WT_int w1
  obtain ⟨rd, rfl, _⟩ := WT_int w2
  obtain ⟨wr, rfl, _⟩ := WT_int w3
  exact ⟨u, v, rd, wr, rfl⟩
theorem wearNarrower_law (avs : List AV) (h : TyArgs Try.prog Try.f5.params.toList avs) : Con Try.prog 5 avs [] (.b true) [] := by
  obtain ⟨a0, r0, rfl, h0, h⟩ := tyArgs_cons h
  obtain ⟨a1, r1, rfl, h1, h⟩ := tyArgs_cons h
  obtain ⟨a2, r2, rfl, h2, h⟩ := tyArgs_cons h
  obtain rfl := tyArgs_nil h
  obtain ⟨os, hs, st, tl, th, L, rfl, hp⟩ := skin_of h0
  obtain ⟨xu, xv, xr, xw, rfl⟩ := reading_of h1
  obtain ⟨u, v, rfl, _⟩ := pt_of h2
  obtain ⟨q1, q2⟩ := narrower_val os hs st tl th L xu xv xr xw u v hp
  have := con5 rfl os hs st tl th (L.map en) xu xv xr xw u v q1
  rw [q2] at this
  exact this
end Go.Proofs.Ytoglnllbopcejaa
