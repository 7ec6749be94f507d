/-
  For every skin and at most 20 probes: the probes in another order make the same skin, if they make one; the law's guards are those of the given statement.
-/
import Derived.Test.YtoglnllbopcejaaTa
import Derived.Test.YtoglnllbopcejaaPd
import Derived.Test.YtoglnllbopcejaaPe
import Derived.Test.YtoglnllbopcejaaPf
import Derived.Test.YtoglnllbopcejaaPc
set_option linter.unusedVariables false
set_option maxRecDepth 100000
set_option linter.unusedVariables false
namespace Go.Proofs.Ytoglnllbopcejaa
open Go Go.Ev
theorem WT_int {a : AV} {k : IntKind} (h : WT Try.prog (.int k) a) : ∃ n, a = .i k n ∧ k.min ≤ n ∧ n ≤ k.max := by
  cases h with
  | int h1 h2 => exact ⟨_, rfl, h1, h2⟩
theorem WT_sl {a : AV} {e : TypeId} (h : WT Try.prog (.sl e) a) : ∃ es, a = .rs e es ∧ es.length ≤ 9223372036854775807 ∧ (∀ x, x ∈ es → x.length = (cts Try.prog e).length) ∧ (∀ x, x ∈ es → ∀ j, j < x.length → WT Try.prog ((cts Try.prog e).getD j .oth) (x.getD j .u)) := by
  cases h with
  | sl h1 h2 h3 => exact ⟨_, rfl, h1, h2, h3⟩
theorem ty_agg {a : AV} {t : TypeId} {c : List CT} (hA : Ev.isAgg Try.prog t = true) (hc : cts Try.prog t = c) (h : TyArg Try.prog t a) : ∃ bs, a = .agg bs ∧ WTs Try.prog c bs := by
  rcases h with ⟨_, as1, rfl, h⟩ | ⟨h, _⟩
  · exact ⟨as1, rfl, hc ▸ h⟩
  · rw [hA] at h; cases h
theorem ty_one {a : AV} {t : TypeId} {c : CT} (hA : Ev.isAgg Try.prog t = false) (hc : (cts Try.prog t).headD .oth = c) (h : TyArg Try.prog t a) : WT Try.prog c a := by
  rcases h with ⟨h, _⟩ | ⟨_, h⟩
  · rw [hA] at h; cases h
  · exact hc ▸ h
theorem WTs_cons {c : CT} {cs : List CT} {bs : List AV} (h : WTs Try.prog (c :: cs) bs) : ∃ a r, bs = a :: r ∧ WT Try.prog c a ∧ WTs Try.prog cs r := by
  obtain ⟨h1, h2⟩ := h
  cases bs with
  | nil => simp at h1
  | cons a r =>
    refine ⟨a, r, rfl, by simpa using h2 0 (by simp), by simpa using h1, fun j hj => ?_⟩
    simpa using h2 (j + 1) (by simpa using hj)
theorem WTs_nil {bs : List AV} (h : WTs Try.prog [] bs) : bs = [] := by simpa using h.1
theorem tyArgs_cons {t : TypeId} {ts : List TypeId} {bs : List AV} (h : TyArgs Try.prog (t :: ts) bs) : ∃ a r, bs = a :: r ∧ TyArg Try.prog t a ∧ TyArgs Try.prog ts r := by
  cases bs with
  | nil => cases h
  | cons a r => exact ⟨a, r, rfl, h.1, h.2⟩
theorem tyArgs_nil {bs : List AV} (h : TyArgs Try.prog [] bs) : bs = [] := by
  cases bs with
  | nil => rfl
  | cons a r => cases h
end Go.Proofs.Ytoglnllbopcejaa

set_option maxRecDepth 100000
namespace Go.Proofs.Ytoglnllbopcejaa
open Go Go.Ev
def its : ISpec := fun g caps => cond (Nat.beq g 60) (match caps with
  | [.rp [.sl 32] [.rs 32 es] 0] => cond (okS es) (some ((sidesX es).map encS)) none
  | _ => none) none
theorem its_ok : IOK Try.prog its := by
  intro g caps xs h
  unfold its at h
  obtain ⟨hg, h2⟩ := cond_some h
  clear h
  have hg := Nat.eq_of_beq_eq_true hg
  subst hg
  split at h2
  · obtain ⟨hc, h3⟩ := cond_some h2
    cases h3
    exact sides_con hc
  · cases h2
noncomputable def S1 : Ev.Spec := runS Try.prog its ro S0 300 5 12
theorem S1_ok : SpecOK Try.prog S1 := runS_ok its_ok mixed names S0_ok 12
theorem lives_eq : S1 8 [] [] = some (true, .b true, []) := by kernel_rfl
theorem lives_con : Con Try.prog 8 [] [] (.b true) [] := S1_ok _ _ _ _ _ _ lives_eq rfl
end Go.Proofs.Ytoglnllbopcejaa

set_option maxRecDepth 100000
set_option linter.unusedVariables false
namespace Go.Proofs.Ytoglnllbopcejaa
open Go Go.Ev
structure Lq where
  g7 : List (List AV) → List (List AV) → Int → Int → Int → List (List AV) → Bool
  w7 : List (List AV) → List (List AV) → Int → Int → Int → List (List AV) → Bool
  g9 : List (List AV) → List (List AV) → Int → Int → Int → List (List AV) → Int → Int → Int → Int → Bool
  p9 : List (List AV) → List (List AV) → Int → Int → Int → List (List AV) → Int → Int → Int → Int → (List (List AV)) × (List (List AV)) × Int × Int × Int × (List (List AV)) × Int
  g10 : List (List AV) → List (List AV) → Int → Int → Int → List (List AV) → Int → Int → Int → Int → Bool
  p10 : List (List AV) → List (List AV) → Int → Int → Int → List (List AV) → Int → Int → Int → Int → (List (List AV)) × (List (List AV)) × Int × Int × Int × (List (List AV)) × Int
  g11 : List (List AV) → List (List AV) → Int → Int → Int → List (List AV) → List (List AV) → List (List AV) → Int → Int → Int → List (List AV) → Bool
  w11 : List (List AV) → List (List AV) → Int → Int → Int → List (List AV) → List (List AV) → List (List AV) → Int → Int → Int → List (List AV) → Bool
noncomputable def Q0 : Lq := ⟨g7, w7_0, g9 V0, fun os hs st tl th ms u v rd wr => (t9 V0 os hs st tl th ms u v rd wr).val, g10 U0, fun os hs st tl th ms u v rd wr => (t10 U0 os hs st tl th ms u v rd wr).val, g11, w11_0⟩
noncomputable def e7q (V : Lq) (args : List AV) (rows : List Blk) : Option (Bool × AV × List Blk) := match args, rows with
  | [.agg [.rs a os, .rs b hs, .i .i64 st, .i .i64 tl, .i .i64 th, .rs c ms]], [] => cond (Nat.beq a 32 && (Nat.beq b 55 && (Nat.beq c 67))) (some (V.g7 os hs st tl th ms, .b (V.w7 os hs st tl th ms), [])) none
  | _, _ => none
theorem e7q_ok {V : Lq} (hV : V = Q0) (args : List AV) (rows : List Blk) (pre : Bool) (v : AV) (rows' : List Blk) (h : e7q V args rows = some (pre, v, rows')) (hp : pre = true) : Con Try.prog 7 args rows v rows' := by
  subst hV
  unfold e7q at h
  split at h <;> first | (cases h; done) | skip
  obtain ⟨h1, h2⟩ := cond_some2 h
  clear h
  simp only [Bool.and_eq_true] at h1
  obtain ⟨q0, q1, q2⟩ := h1
  obtain rfl := Nat.eq_of_beq_eq_true q0
  obtain rfl := Nat.eq_of_beq_eq_true q1
  obtain rfl := Nat.eq_of_beq_eq_true q2
  cases h2
  exact con7 _ _ _ _ _ _ hp
noncomputable def e9q (V : Lq) (args : List AV) (rows : List Blk) : Option (Bool × AV × List Blk) := match args, rows with
  | [.agg [.rs a os, .rs b hs, .i .i64 st, .i .i64 tl, .i .i64 th, .rs c ms], .agg [.i .i64 u, .i .i64 v], .i .i64 rd, .i .i64 wr], [] => cond (Nat.beq a 32 && (Nat.beq b 55 && (Nat.beq c 67))) (some (V.g9 os hs st tl th ms u v rd wr, .tup [.agg [.rs 32 (V.p9 os hs st tl th ms u v rd wr).1, .rs 55 (V.p9 os hs st tl th ms u v rd wr).2.1, .i .i64 (V.p9 os hs st tl th ms u v rd wr).2.2.1, .i .i64 (V.p9 os hs st tl th ms u v rd wr).2.2.2.1, .i .i64 (V.p9 os hs st tl th ms u v rd wr).2.2.2.2.1, .rs 67 (V.p9 os hs st tl th ms u v rd wr).2.2.2.2.2.1], .i .i64 (V.p9 os hs st tl th ms u v rd wr).2.2.2.2.2.2], [])) none
  | _, _ => none
theorem e9q_ok {V : Lq} (hV : V = Q0) (args : List AV) (rows : List Blk) (pre : Bool) (v : AV) (rows' : List Blk) (h : e9q V args rows = some (pre, v, rows')) (hp : pre = true) : Con Try.prog 9 args rows v rows' := by
  subst hV
  unfold e9q at h
  split at h <;> first | (cases h; done) | skip
  obtain ⟨h1, h2⟩ := cond_some2 h
  clear h
  simp only [Bool.and_eq_true] at h1
  obtain ⟨q0, q1, q2⟩ := h1
  obtain rfl := Nat.eq_of_beq_eq_true q0
  obtain rfl := Nat.eq_of_beq_eq_true q1
  obtain rfl := Nat.eq_of_beq_eq_true q2
  cases h2
  exact con9 rfl _ _ _ _ _ _ _ _ _ _ hp
noncomputable def e10q (V : Lq) (args : List AV) (rows : List Blk) : Option (Bool × AV × List Blk) := match args, rows with
  | [.agg [.rs a os, .rs b hs, .i .i64 st, .i .i64 tl, .i .i64 th, .rs c ms], .agg [.i .i64 u, .i .i64 v], .i .i64 rd, .i .i64 wr], [] => cond (Nat.beq a 32 && (Nat.beq b 55 && (Nat.beq c 67))) (some (V.g10 os hs st tl th ms u v rd wr, .tup [.agg [.rs 32 (V.p10 os hs st tl th ms u v rd wr).1, .rs 55 (V.p10 os hs st tl th ms u v rd wr).2.1, .i .i64 (V.p10 os hs st tl th ms u v rd wr).2.2.1, .i .i64 (V.p10 os hs st tl th ms u v rd wr).2.2.2.1, .i .i64 (V.p10 os hs st tl th ms u v rd wr).2.2.2.2.1, .rs 67 (V.p10 os hs st tl th ms u v rd wr).2.2.2.2.2.1], .i .i64 (V.p10 os hs st tl th ms u v rd wr).2.2.2.2.2.2], [])) none
  | _, _ => none
theorem e10q_ok {V : Lq} (hV : V = Q0) (args : List AV) (rows : List Blk) (pre : Bool) (v : AV) (rows' : List Blk) (h : e10q V args rows = some (pre, v, rows')) (hp : pre = true) : Con Try.prog 10 args rows v rows' := by
  subst hV
  unfold e10q at h
  split at h <;> first | (cases h; done) | skip
  obtain ⟨h1, h2⟩ := cond_some2 h
  clear h
  simp only [Bool.and_eq_true] at h1
  obtain ⟨q0, q1, q2⟩ := h1
  obtain rfl := Nat.eq_of_beq_eq_true q0
  obtain rfl := Nat.eq_of_beq_eq_true q1
  obtain rfl := Nat.eq_of_beq_eq_true q2
  cases h2
  exact con10 rfl _ _ _ _ _ _ _ _ _ _ hp
noncomputable def e11q (V : Lq) (args : List AV) (rows : List Blk) : Option (Bool × AV × List Blk) := match args, rows with
  | [.agg [.rs a os, .rs b hs, .i .i64 st, .i .i64 tl, .i .i64 th, .rs c ms], .agg [.rs d os', .rs e hs', .i .i64 st', .i .i64 tl', .i .i64 th', .rs f ms']], [] => cond (Nat.beq a 32 && (Nat.beq b 55 && (Nat.beq c 67 && (Nat.beq d 32 && (Nat.beq e 55 && (Nat.beq f 67)))))) (some (V.g11 os hs st tl th ms os' hs' st' tl' th' ms', .b (V.w11 os hs st tl th ms os' hs' st' tl' th' ms'), [])) none
  | _, _ => none
theorem e11q_ok {V : Lq} (hV : V = Q0) (args : List AV) (rows : List Blk) (pre : Bool) (v : AV) (rows' : List Blk) (h : e11q V args rows = some (pre, v, rows')) (hp : pre = true) : Con Try.prog 11 args rows v rows' := by
  subst hV
  unfold e11q at h
  split at h <;> first | (cases h; done) | skip
  obtain ⟨h1, h2⟩ := cond_some2 h
  clear h
  simp only [Bool.and_eq_true] at h1
  obtain ⟨q0, q1, q2, q3, q4, q5⟩ := h1
  obtain rfl := Nat.eq_of_beq_eq_true q0
  obtain rfl := Nat.eq_of_beq_eq_true q1
  obtain rfl := Nat.eq_of_beq_eq_true q2
  obtain rfl := Nat.eq_of_beq_eq_true q3
  obtain rfl := Nat.eq_of_beq_eq_true q4
  obtain rfl := Nat.eq_of_beq_eq_true q5
  cases h2
  exact con11 _ _ _ _ _ _ _ _ _ _ _ _ hp
noncomputable def e8q (args : List AV) (rows : List Blk) : Option (Bool × AV × List Blk) := match args, rows with
  | [], [] => some (true, .b true, [])
  | _, _ => none
theorem e8q_ok (args : List AV) (rows : List Blk) (pre : Bool) (v : AV) (rows' : List Blk) (h : e8q args rows = some (pre, v, rows')) (hp : pre = true) : Con Try.prog 8 args rows v rows' := by
  unfold e8q at h
  split at h
  · cases h; exact lives_con
  · cases h
noncomputable def SL (V : Lq) : Ev.Spec := insS 11 (e11q V) (insS 10 (e10q V) (insS 9 (e9q V) (insS 8 e8q (insS 7 (e7q V) S0))))
theorem SL_ok {V : Lq} (hV : V = Q0) : SpecOK Try.prog (SL V) := insS_ok (e11q_ok hV) (insS_ok (e10q_ok hV) (insS_ok (e9q_ok hV) (insS_ok e8q_ok (insS_ok (e7q_ok hV) S0_ok))))
end Go.Proofs.Ytoglnllbopcejaa

set_option maxRecDepth 100000
set_option maxHeartbeats 0
set_option linter.unusedVariables false
namespace Go.Proofs.Ytoglnllbopcejaa
open Go Go.Ev

noncomputable def c3 : Code := match Try.f3.body with | some c => c | _ => .skip
noncomputable def t3 (V : Lq) (os hs : List (List AV)) (st tl th : Int) (ms : List (List AV)) (u v rd wr : Int) : Tr ((Bool)) :=
  .cn (V.g7 os hs st tl th ms) (.cn (V.w7 os hs st tl th ms) (.lf (true)) (.cn (V.g9 os hs st tl th ms u v rd wr) (.cn (V.g10 os hs st tl th ms u v rd wr) (.cn (V.g11 (V.p9 os hs st tl th ms u v rd wr).fst (V.p9 os hs st tl th ms u v rd wr).snd.fst (V.p9 os hs st tl th ms u v rd wr).snd.snd.fst (V.p9 os hs st tl th ms u v rd wr).snd.snd.snd.fst (V.p9 os hs st tl th ms u v rd wr).snd.snd.snd.snd.fst (V.p9 os hs st tl th ms u v rd wr).snd.snd.snd.snd.snd.fst (V.p10 os hs st tl th ms u v rd wr).fst (V.p10 os hs st tl th ms u v rd wr).snd.fst (V.p10 os hs st tl th ms u v rd wr).snd.snd.fst (V.p10 os hs st tl th ms u v rd wr).snd.snd.snd.fst (V.p10 os hs st tl th ms u v rd wr).snd.snd.snd.snd.fst (V.p10 os hs st tl th ms u v rd wr).snd.snd.snd.snd.snd.fst) (.cn (V.w11 (V.p9 os hs st tl th ms u v rd wr).fst (V.p9 os hs st tl th ms u v rd wr).snd.fst (V.p9 os hs st tl th ms u v rd wr).snd.snd.fst (V.p9 os hs st tl th ms u v rd wr).snd.snd.snd.fst (V.p9 os hs st tl th ms u v rd wr).snd.snd.snd.snd.fst (V.p9 os hs st tl th ms u v rd wr).snd.snd.snd.snd.snd.fst (V.p10 os hs st tl th ms u v rd wr).fst (V.p10 os hs st tl th ms u v rd wr).snd.fst (V.p10 os hs st tl th ms u v rd wr).snd.snd.fst (V.p10 os hs st tl th ms u v rd wr).snd.snd.snd.fst (V.p10 os hs st tl th ms u v rd wr).snd.snd.snd.snd.fst (V.p10 os hs st tl th ms u v rd wr).snd.snd.snd.snd.snd.fst) (.cn ((V.p9 os hs st tl th ms u v rd wr).snd.snd.snd.snd.snd.snd == (V.p10 os hs st tl th ms u v rd wr).snd.snd.snd.snd.snd.snd) (.lf (true)) (.lf (false))) (.lf (false))) (.nn)) (.nn)) (.nn))) (.nn)
noncomputable def g3 (V : Lq) (os hs : List (List AV)) (st tl th : Int) (ms : List (List AV)) (u v rd wr : Int) : Bool := (t3 V os hs st tl th ms u v rd wr).g
noncomputable def w3_0 (V : Lq) (os hs : List (List AV)) (st tl th : Int) (ms : List (List AV)) (u v rd wr : Int) : Bool := (t3 V os hs st tl th ms u v rd wr).val
noncomputable def e3 (args : List AV) (rows : List Blk) : Option (Bool × AV × List Blk) := match args, rows with
  | [.agg [.rs 32 os, .rs 55 hs, .i .i64 st, .i .i64 tl, .i .i64 th, .rs 67 ms], .agg [.i .i64 u, .i .i64 v], .i .i64 rd, .i .i64 wr], [] => some (g3 Q0 os hs st tl th ms u v rd wr, .b (w3_0 Q0 os hs st tl th ms u v rd wr), [])
  | _, _ => none
-- SPEC 3
end Go.Proofs.Ytoglnllbopcejaa

set_option maxRecDepth 100000
set_option linter.unusedVariables false
namespace Go.Proofs.Ytoglnllbopcejaa
open Go Go.Ev
theorem plain_rows {os : List (List AV)} (h : ∀ x, x ∈ os → ∃ u v, x = [.i .i64 u, .i .i64 v] ∧ (IntKind.i64.min ≤ u ∧ u ≤ IntKind.i64.max) ∧ (IntKind.i64.min ≤ v ∧ v ≤ IntKind.i64.max)) : (sidesX os).all (fun x => plainL (encS x)) = true := by
  have key : ∀ i k, IntKind.i64.min ≤ fI (os.getD i []) k ∧ fI (os.getD i []) k ≤ IntKind.i64.max := by
    intro i k
    by_cases hi : i < os.length
    · obtain ⟨u, v, e, hu, hv⟩ := h (os.getD i []) (by simp [List.getD_eq_getElem?_getD, List.getElem?_eq_getElem hi])
      rw [e]
      match k with
      | 0 => exact hu
      | 1 => exact hv
      | k + 2 =>
        rw [show fI [AV.i .i64 u, AV.i .i64 v] (k + 2) = 0 from rfl]
        decide
    · rw [show os.getD i [] = [] by simp [List.getD_eq_getElem?_getD, List.getElem?_eq_none (show os.length ≤ i by omega)]]
      rw [show fI [] k = 0 from rfl]
      decide
  refine List.all_eq_true.2 fun x hx => ?_
  obtain ⟨i, _, rfl⟩ := List.mem_map.1 hx
  have p : ∀ i k, plain (.i .i64 (fI (os.getD i []) k)) = true := fun i k => by
    have := key i k
    simp only [plain, Bool.and_eq_true, decide_eq_true_eq]
    exact this
  generalize (i + 1) % os.length = j
  show ((plain (.i .i64 (fI (os.getD i []) 0)) && (plain (.i .i64 (fI (os.getD i []) 1)) && (plain (.i .i64 (fI (os.getD j []) 0)) && (plain (.i .i64 (fI (os.getD j []) 1)) && true)))) && true) = true
  rw [p, p, p, p]
  rfl
def plainS (os : List (List AV)) : Prop := (sidesX os).all (fun x => plainL (encS x)) = true
theorem skin_of {a : AV} (h : TyArg Try.prog 30 a) : ∃ os hs st tl th L, a = .agg [.rs 32 os, .rs 55 hs, .i .i64 st, .i .i64 tl, .i .i64 th, .rs 67 (List.map en L)] ∧ plainS os := by
  obtain ⟨bs, rfl, hw⟩ := ty_agg (c := [.sl 32, .sl 55, .int .i64, .int .i64, .int .i64, .sl 67]) (by kernel_rfl) (by kernel_rfl) h
  obtain ⟨b0, q0, rfl, w0, hw⟩ := WTs_cons hw
  obtain ⟨b1, q1, rfl, w1, hw⟩ := WTs_cons hw
  obtain ⟨b2, q2, rfl, w2, hw⟩ := WTs_cons hw
  obtain ⟨b3, q3, rfl, w3, hw⟩ := WTs_cons hw
  obtain ⟨b4, q4, rfl, w4, hw⟩ := WTs_cons hw
  obtain ⟨b5, q5, rfl, w5, hw⟩ := WTs_cons hw
  obtain rfl := WTs_nil hw
  obtain ⟨os, rfl, o1, o2, o3⟩ := WT_sl w0
  obtain ⟨hs, rfl, _⟩ := WT_sl w1
  obtain ⟨st, rfl, _⟩ := WT_int w2
  obtain ⟨tl, rfl, _⟩ := WT_int w3
  obtain ⟨th, rfl, _⟩ := WT_int w4
  obtain ⟨ms, rfl, m1, m2, m3⟩ := WT_sl w5
  have hm : (ms.map fun e => (⟨fI e 0, fI e 1, fI e 2, fI e 3⟩ : Mk)).map en = ms := by
    rw [List.map_map]
    conv => rhs; rw [← List.map_id ms]
    refine List.map_congr_left fun x hx => ?_
    have e : cts Try.prog 67 = [.int .i64, .int .i64, .int .i64, .int .i64] := by kernel_rfl
    have hl := m2 x hx
    have hc := m3 x hx
    rw [e] at hl hc
    match x, hl with
    | [a, b, c, d], _ =>
      obtain ⟨x0, rfl, _⟩ := WT_int (show WT Try.prog (.int .i64) a from hc 0 (by simp))
      obtain ⟨x1, rfl, _⟩ := WT_int (show WT Try.prog (.int .i64) b from hc 1 (by simp))
      obtain ⟨x2, rfl, _⟩ := WT_int (show WT Try.prog (.int .i64) c from hc 2 (by simp))
      obtain ⟨x3, rfl, _⟩ := WT_int (show WT Try.prog (.int .i64) d from hc 3 (by simp))
      rfl
  refine ⟨os, hs, st, tl, th, ms.map fun e => (⟨fI e 0, fI e 1, fI e 2, fI e 3⟩ : Mk), by rw [hm], plain_rows fun x hx => ?_⟩
  have e : cts Try.prog 32 = [.int .i64, .int .i64] := by kernel_rfl
  have hl := o2 x hx
  have hc := o3 x hx
  rw [e] at hl hc
  match x, hl with
  | [a, b], _ =>
    obtain ⟨u, rfl, u1⟩ := WT_int (show WT Try.prog (.int .i64) a from hc 0 (by simp))
    obtain ⟨v, rfl, v1⟩ := WT_int (show WT Try.prog (.int .i64) b from hc 1 (by simp))
    exact ⟨u, v, rfl, u1, v1⟩
theorem great_len {os hs ms : List (List AV)} (h : greatB os hs ms = false) : os.length ≤ 30 ∧ hs.length ≤ 30 ∧ ms.length ≤ 60 := by
  unfold greatB at h
  rw [Bool.or_eq_false_iff, Bool.or_eq_false_iff, Bool.or_eq_false_iff] at h
  have h1 := of_decide_eq_false h.1
  have h2 := of_decide_eq_false h.2.1
  have h3 := of_decide_eq_false h.2.2.1
  omega
theorem okS_of {os : List (List AV)} (h : plainS os) (hl : os.length ≤ 30) : okS os = true := by
  unfold okS
  rw [show (sidesX os).all (fun x => plainL (encS x)) = true from h, Nat.ble_eq_true_of_le (show os.length ≤ 9223372036854775806 by omega)]
  rfl

end Go.Proofs.Ytoglnllbopcejaa

set_option maxRecDepth 100000
set_option linter.unusedVariables false
namespace Go.Proofs.Ytoglnllbopcejaa
open Go Go.Ev
structure Ln where
  q : Lq
  g13 : List (List AV) → List (List AV) → Int → Int → Int → List (List AV) → Int → Int → Bool
  p13 : List (List AV) → List (List AV) → Int → Int → Int → List (List AV) → Int → Int → Int × Int × Int
noncomputable def N0 : Ln := ⟨Q0, g13, fun os hs st tl th ms u v => (t13 os hs st tl th ms u v).val⟩
noncomputable def e13q (V : Ln) (args : List AV) (rows : List Blk) : Option (Bool × AV × List Blk) := match args, rows with
  | [.agg [.rs a os, .rs b hs, .i .i64 st, .i .i64 tl, .i .i64 th, .rs c ms], .agg [.i .i64 u, .i .i64 v]], [] => cond (Nat.beq a 32 && (Nat.beq b 55 && Nat.beq c 67)) (some (V.g13 os hs st tl th ms u v, .tup [.agg [.i .i64 (V.p13 os hs st tl th ms u v).1, .i .i64 (V.p13 os hs st tl th ms u v).2.1], .i .i64 (V.p13 os hs st tl th ms u v).2.2], [])) none
  | _, _ => none
theorem e13q_ok {V : Ln} (hV : V = N0) (args : List AV) (rows : List Blk) (pre : Bool) (v : AV) (rows' : List Blk) (h : e13q V args rows = some (pre, v, rows')) (hp : pre = true) : Con Try.prog 13 args rows v rows' := by
  subst hV
  unfold e13q at h
  split at h <;> first | (cases h; done) | skip
  obtain ⟨h1, h2⟩ := cond_some2 h
  clear h
  simp only [Bool.and_eq_true] at h1
  obtain ⟨q0, q1, q2⟩ := h1
  obtain rfl := Nat.eq_of_beq_eq_true q0
  obtain rfl := Nat.eq_of_beq_eq_true q1
  obtain rfl := Nat.eq_of_beq_eq_true q2
  cases h2
  exact con13 _ _ _ _ _ _ _ _ hp
noncomputable def SN (V : Ln) : Ev.Spec := insS 13 (e13q V) (SL V.q)
theorem SN_ok {V : Ln} (hV : V = N0) : SpecOK Try.prog (SN V) := insS_ok (e13q_ok hV) (SL_ok (hV ▸ rfl))
end Go.Proofs.Ytoglnllbopcejaa

set_option maxRecDepth 100000
set_option maxHeartbeats 0
set_option linter.unusedVariables false
namespace Go.Proofs.Ytoglnllbopcejaa
open Go Go.Ev

noncomputable def c5 : Code := match Try.f5.body with | some c => c | _ => .skip
noncomputable def t5 (V : Ln) (os hs : List (List AV)) (st tl th : Int) (ms : List (List AV)) (xu xv xr xw u v : Int) : Tr ((Bool)) :=
  .cn (V.q.g7 os hs st tl th ms) (.cn (V.q.w7 os hs st tl th ms) (.lf (true)) (.cn (V.q.g9 os hs st tl th ms xu xv xr xw) (.cn ((V.q.p9 os hs st tl th ms xu xv xr xw).snd.snd.snd.snd.snd.snd != 0) (.cn (V.q.g11 (V.q.p9 os hs st tl th ms xu xv xr xw).fst (V.q.p9 os hs st tl th ms xu xv xr xw).snd.fst (V.q.p9 os hs st tl th ms xu xv xr xw).snd.snd.fst (V.q.p9 os hs st tl th ms xu xv xr xw).snd.snd.snd.fst (V.q.p9 os hs st tl th ms xu xv xr xw).snd.snd.snd.snd.fst (V.q.p9 os hs st tl th ms xu xv xr xw).snd.snd.snd.snd.snd.fst [] [] 0 0 0 []) (.cn (V.q.w11 (V.q.p9 os hs st tl th ms xu xv xr xw).fst (V.q.p9 os hs st tl th ms xu xv xr xw).snd.fst (V.q.p9 os hs st tl th ms xu xv xr xw).snd.snd.fst (V.q.p9 os hs st tl th ms xu xv xr xw).snd.snd.snd.fst (V.q.p9 os hs st tl th ms xu xv xr xw).snd.snd.snd.snd.fst (V.q.p9 os hs st tl th ms xu xv xr xw).snd.snd.snd.snd.snd.fst [] [] 0 0 0 []) (.lf (true)) (.lf (false))) (.nn)) (.cn (V.q.g9 (V.q.p9 os hs st tl th ms xu xv xr xw).fst (V.q.p9 os hs st tl th ms xu xv xr xw).snd.fst (V.q.p9 os hs st tl th ms xu xv xr xw).snd.snd.fst (V.q.p9 os hs st tl th ms xu xv xr xw).snd.snd.snd.fst (V.q.p9 os hs st tl th ms xu xv xr xw).snd.snd.snd.snd.fst (V.q.p9 os hs st tl th ms xu xv xr xw).snd.snd.snd.snd.snd.fst xu xv xr xw) (.cn ((V.q.p9 (V.q.p9 os hs st tl th ms xu xv xr xw).fst (V.q.p9 os hs st tl th ms xu xv xr xw).snd.fst (V.q.p9 os hs st tl th ms xu xv xr xw).snd.snd.fst (V.q.p9 os hs st tl th ms xu xv xr xw).snd.snd.snd.fst (V.q.p9 os hs st tl th ms xu xv xr xw).snd.snd.snd.snd.fst (V.q.p9 os hs st tl th ms xu xv xr xw).snd.snd.snd.snd.snd.fst xu xv xr xw).snd.snd.snd.snd.snd.snd != 0) (.lf (false)) (.cn (V.q.g11 (V.q.p9 os hs st tl th ms xu xv xr xw).fst (V.q.p9 os hs st tl th ms xu xv xr xw).snd.fst (V.q.p9 os hs st tl th ms xu xv xr xw).snd.snd.fst (V.q.p9 os hs st tl th ms xu xv xr xw).snd.snd.snd.fst (V.q.p9 os hs st tl th ms xu xv xr xw).snd.snd.snd.snd.fst (V.q.p9 os hs st tl th ms xu xv xr xw).snd.snd.snd.snd.snd.fst (V.q.p9 (V.q.p9 os hs st tl th ms xu xv xr xw).fst (V.q.p9 os hs st tl th ms xu xv xr xw).snd.fst (V.q.p9 os hs st tl th ms xu xv xr xw).snd.snd.fst (V.q.p9 os hs st tl th ms xu xv xr xw).snd.snd.snd.fst (V.q.p9 os hs st tl th ms xu xv xr xw).snd.snd.snd.snd.fst (V.q.p9 os hs st tl th ms xu xv xr xw).snd.snd.snd.snd.snd.fst xu xv xr xw).fst (V.q.p9 (V.q.p9 os hs st tl th ms xu xv xr xw).fst (V.q.p9 os hs st tl th ms xu xv xr xw).snd.fst (V.q.p9 os hs st tl th ms xu xv xr xw).snd.snd.fst (V.q.p9 os hs st tl th ms xu xv xr xw).snd.snd.snd.fst (V.q.p9 os hs st tl th ms xu xv xr xw).snd.snd.snd.snd.fst (V.q.p9 os hs st tl th ms xu xv xr xw).snd.snd.snd.snd.snd.fst xu xv xr xw).snd.fst (V.q.p9 (V.q.p9 os hs st tl th ms xu xv xr xw).fst (V.q.p9 os hs st tl th ms xu xv xr xw).snd.fst (V.q.p9 os hs st tl th ms xu xv xr xw).snd.snd.fst (V.q.p9 os hs st tl th ms xu xv xr xw).snd.snd.snd.fst (V.q.p9 os hs st tl th ms xu xv xr xw).snd.snd.snd.snd.fst (V.q.p9 os hs st tl th ms xu xv xr xw).snd.snd.snd.snd.snd.fst xu xv xr xw).snd.snd.fst (V.q.p9 (V.q.p9 os hs st tl th ms xu xv xr xw).fst (V.q.p9 os hs st tl th ms xu xv xr xw).snd.fst (V.q.p9 os hs st tl th ms xu xv xr xw).snd.snd.fst (V.q.p9 os hs st tl th ms xu xv xr xw).snd.snd.snd.fst (V.q.p9 os hs st tl th ms xu xv xr xw).snd.snd.snd.snd.fst (V.q.p9 os hs st tl th ms xu xv xr xw).snd.snd.snd.snd.snd.fst xu xv xr xw).snd.snd.snd.fst (V.q.p9 (V.q.p9 os hs st tl th ms xu xv xr xw).fst (V.q.p9 os hs st tl th ms xu xv xr xw).snd.fst (V.q.p9 os hs st tl th ms xu xv xr xw).snd.snd.fst (V.q.p9 os hs st tl th ms xu xv xr xw).snd.snd.snd.fst (V.q.p9 os hs st tl th ms xu xv xr xw).snd.snd.snd.snd.fst (V.q.p9 os hs st tl th ms xu xv xr xw).snd.snd.snd.snd.snd.fst xu xv xr xw).snd.snd.snd.snd.fst (V.q.p9 (V.q.p9 os hs st tl th ms xu xv xr xw).fst (V.q.p9 os hs st tl th ms xu xv xr xw).snd.fst (V.q.p9 os hs st tl th ms xu xv xr xw).snd.snd.fst (V.q.p9 os hs st tl th ms xu xv xr xw).snd.snd.snd.fst (V.q.p9 os hs st tl th ms xu xv xr xw).snd.snd.snd.snd.fst (V.q.p9 os hs st tl th ms xu xv xr xw).snd.snd.snd.snd.snd.fst xu xv xr xw).snd.snd.snd.snd.snd.fst) (.cn (!V.q.w11 (V.q.p9 os hs st tl th ms xu xv xr xw).fst (V.q.p9 os hs st tl th ms xu xv xr xw).snd.fst (V.q.p9 os hs st tl th ms xu xv xr xw).snd.snd.fst (V.q.p9 os hs st tl th ms xu xv xr xw).snd.snd.snd.fst (V.q.p9 os hs st tl th ms xu xv xr xw).snd.snd.snd.snd.fst (V.q.p9 os hs st tl th ms xu xv xr xw).snd.snd.snd.snd.snd.fst (V.q.p9 (V.q.p9 os hs st tl th ms xu xv xr xw).fst (V.q.p9 os hs st tl th ms xu xv xr xw).snd.fst (V.q.p9 os hs st tl th ms xu xv xr xw).snd.snd.fst (V.q.p9 os hs st tl th ms xu xv xr xw).snd.snd.snd.fst (V.q.p9 os hs st tl th ms xu xv xr xw).snd.snd.snd.snd.fst (V.q.p9 os hs st tl th ms xu xv xr xw).snd.snd.snd.snd.snd.fst xu xv xr xw).fst (V.q.p9 (V.q.p9 os hs st tl th ms xu xv xr xw).fst (V.q.p9 os hs st tl th ms xu xv xr xw).snd.fst (V.q.p9 os hs st tl th ms xu xv xr xw).snd.snd.fst (V.q.p9 os hs st tl th ms xu xv xr xw).snd.snd.snd.fst (V.q.p9 os hs st tl th ms xu xv xr xw).snd.snd.snd.snd.fst (V.q.p9 os hs st tl th ms xu xv xr xw).snd.snd.snd.snd.snd.fst xu xv xr xw).snd.fst (V.q.p9 (V.q.p9 os hs st tl th ms xu xv xr xw).fst (V.q.p9 os hs st tl th ms xu xv xr xw).snd.fst (V.q.p9 os hs st tl th ms xu xv xr xw).snd.snd.fst (V.q.p9 os hs st tl th ms xu xv xr xw).snd.snd.snd.fst (V.q.p9 os hs st tl th ms xu xv xr xw).snd.snd.snd.snd.fst (V.q.p9 os hs st tl th ms xu xv xr xw).snd.snd.snd.snd.snd.fst xu xv xr xw).snd.snd.fst (V.q.p9 (V.q.p9 os hs st tl th ms xu xv xr xw).fst (V.q.p9 os hs st tl th ms xu xv xr xw).snd.fst (V.q.p9 os hs st tl th ms xu xv xr xw).snd.snd.fst (V.q.p9 os hs st tl th ms xu xv xr xw).snd.snd.snd.fst (V.q.p9 os hs st tl th ms xu xv xr xw).snd.snd.snd.snd.fst (V.q.p9 os hs st tl th ms xu xv xr xw).snd.snd.snd.snd.snd.fst xu xv xr xw).snd.snd.snd.fst (V.q.p9 (V.q.p9 os hs st tl th ms xu xv xr xw).fst (V.q.p9 os hs st tl th ms xu xv xr xw).snd.fst (V.q.p9 os hs st tl th ms xu xv xr xw).snd.snd.fst (V.q.p9 os hs st tl th ms xu xv xr xw).snd.snd.snd.fst (V.q.p9 os hs st tl th ms xu xv xr xw).snd.snd.snd.snd.fst (V.q.p9 os hs st tl th ms xu xv xr xw).snd.snd.snd.snd.snd.fst xu xv xr xw).snd.snd.snd.snd.fst (V.q.p9 (V.q.p9 os hs st tl th ms xu xv xr xw).fst (V.q.p9 os hs st tl th ms xu xv xr xw).snd.fst (V.q.p9 os hs st tl th ms xu xv xr xw).snd.snd.fst (V.q.p9 os hs st tl th ms xu xv xr xw).snd.snd.snd.fst (V.q.p9 os hs st tl th ms xu xv xr xw).snd.snd.snd.snd.fst (V.q.p9 os hs st tl th ms xu xv xr xw).snd.snd.snd.snd.snd.fst xu xv xr xw).snd.snd.snd.snd.snd.fst) (.lf (false)) (.cn (V.g13 (V.q.p9 os hs st tl th ms xu xv xr xw).fst (V.q.p9 os hs st tl th ms xu xv xr xw).snd.fst (V.q.p9 os hs st tl th ms xu xv xr xw).snd.snd.fst (V.q.p9 os hs st tl th ms xu xv xr xw).snd.snd.snd.fst (V.q.p9 os hs st tl th ms xu xv xr xw).snd.snd.snd.snd.fst (V.q.p9 os hs st tl th ms xu xv xr xw).snd.snd.snd.snd.snd.fst xu xv) (.cn ((V.p13 (V.q.p9 os hs st tl th ms xu xv xr xw).fst (V.q.p9 os hs st tl th ms xu xv xr xw).snd.fst (V.q.p9 os hs st tl th ms xu xv xr xw).snd.snd.fst (V.q.p9 os hs st tl th ms xu xv xr xw).snd.snd.snd.fst (V.q.p9 os hs st tl th ms xu xv xr xw).snd.snd.snd.snd.fst (V.q.p9 os hs st tl th ms xu xv xr xw).snd.snd.snd.snd.snd.fst xu xv).snd.snd != 0) (.lf (false)) (.cn (decide ((V.p13 (V.q.p9 os hs st tl th ms xu xv xr xw).fst (V.q.p9 os hs st tl th ms xu xv xr xw).snd.fst (V.q.p9 os hs st tl th ms xu xv xr xw).snd.snd.fst (V.q.p9 os hs st tl th ms xu xv xr xw).snd.snd.snd.fst (V.q.p9 os hs st tl th ms xu xv xr xw).snd.snd.snd.snd.fst (V.q.p9 os hs st tl th ms xu xv xr xw).snd.snd.snd.snd.snd.fst xu xv).fst < IntKind.i64.wrap (xr - xw))) (.lf (false)) (.cn (decide ((V.p13 (V.q.p9 os hs st tl th ms xu xv xr xw).fst (V.q.p9 os hs st tl th ms xu xv xr xw).snd.fst (V.q.p9 os hs st tl th ms xu xv xr xw).snd.snd.fst (V.q.p9 os hs st tl th ms xu xv xr xw).snd.snd.snd.fst (V.q.p9 os hs st tl th ms xu xv xr xw).snd.snd.snd.snd.fst (V.q.p9 os hs st tl th ms xu xv xr xw).snd.snd.snd.snd.snd.fst xu xv).snd.fst > IntKind.i64.wrap (xr + xw))) (.lf (false)) (.cn (decide ((V.p13 (V.q.p9 os hs st tl th ms xu xv xr xw).fst (V.q.p9 os hs st tl th ms xu xv xr xw).snd.fst (V.q.p9 os hs st tl th ms xu xv xr xw).snd.snd.fst (V.q.p9 os hs st tl th ms xu xv xr xw).snd.snd.snd.fst (V.q.p9 os hs st tl th ms xu xv xr xw).snd.snd.snd.snd.fst (V.q.p9 os hs st tl th ms xu xv xr xw).snd.snd.snd.snd.snd.fst xu xv).fst > (V.p13 (V.q.p9 os hs st tl th ms xu xv xr xw).fst (V.q.p9 os hs st tl th ms xu xv xr xw).snd.fst (V.q.p9 os hs st tl th ms xu xv xr xw).snd.snd.fst (V.q.p9 os hs st tl th ms xu xv xr xw).snd.snd.snd.fst (V.q.p9 os hs st tl th ms xu xv xr xw).snd.snd.snd.snd.fst (V.q.p9 os hs st tl th ms xu xv xr xw).snd.snd.snd.snd.snd.fst xu xv).snd.fst)) (.lf (false)) (.cn (V.g13 os hs st tl th ms u v) (.cn (V.g13 (V.q.p9 os hs st tl th ms xu xv xr xw).fst (V.q.p9 os hs st tl th ms xu xv xr xw).snd.fst (V.q.p9 os hs st tl th ms xu xv xr xw).snd.snd.fst (V.q.p9 os hs st tl th ms xu xv xr xw).snd.snd.snd.fst (V.q.p9 os hs st tl th ms xu xv xr xw).snd.snd.snd.snd.fst (V.q.p9 os hs st tl th ms xu xv xr xw).snd.snd.snd.snd.snd.fst u v) (.cn ((V.p13 os hs st tl th ms u v).snd.snd == (V.p13 (V.q.p9 os hs st tl th ms xu xv xr xw).fst (V.q.p9 os hs st tl th ms xu xv xr xw).snd.fst (V.q.p9 os hs st tl th ms xu xv xr xw).snd.snd.fst (V.q.p9 os hs st tl th ms xu xv xr xw).snd.snd.snd.fst (V.q.p9 os hs st tl th ms xu xv xr xw).snd.snd.snd.snd.fst (V.q.p9 os hs st tl th ms xu xv xr xw).snd.snd.snd.snd.snd.fst u v).snd.snd) (.cn ((V.p13 os hs st tl th ms u v).snd.snd != 0) (.lf (true)) (.cn (decide ((V.p13 (V.q.p9 os hs st tl th ms xu xv xr xw).fst (V.q.p9 os hs st tl th ms xu xv xr xw).snd.fst (V.q.p9 os hs st tl th ms xu xv xr xw).snd.snd.fst (V.q.p9 os hs st tl th ms xu xv xr xw).snd.snd.snd.fst (V.q.p9 os hs st tl th ms xu xv xr xw).snd.snd.snd.snd.fst (V.q.p9 os hs st tl th ms xu xv xr xw).snd.snd.snd.snd.snd.fst u v).fst ≥ (V.p13 os hs st tl th ms u v).fst)) (.cn (decide ((V.p13 (V.q.p9 os hs st tl th ms xu xv xr xw).fst (V.q.p9 os hs st tl th ms xu xv xr xw).snd.fst (V.q.p9 os hs st tl th ms xu xv xr xw).snd.snd.fst (V.q.p9 os hs st tl th ms xu xv xr xw).snd.snd.snd.fst (V.q.p9 os hs st tl th ms xu xv xr xw).snd.snd.snd.snd.fst (V.q.p9 os hs st tl th ms xu xv xr xw).snd.snd.snd.snd.snd.fst u v).snd.fst ≤ (V.p13 os hs st tl th ms u v).snd.fst)) (.lf (true)) (.lf (false))) (.lf (false)))) (.lf (false))) (.nn)) (.nn)))))) (.nn))) (.nn))) (.nn))) (.nn))) (.nn)
noncomputable def g5 (V : Ln) (os hs : List (List AV)) (st tl th : Int) (ms : List (List AV)) (xu xv xr xw u v : Int) : Bool := (t5 V os hs st tl th ms xu xv xr xw u v).g
noncomputable def w5_0 (V : Ln) (os hs : List (List AV)) (st tl th : Int) (ms : List (List AV)) (xu xv xr xw u v : Int) : Bool := (t5 V os hs st tl th ms xu xv xr xw u v).val
noncomputable def e5 (args : List AV) (rows : List Blk) : Option (Bool × AV × List Blk) := match args, rows with
  | [.agg [.rs 32 os, .rs 55 hs, .i .i64 st, .i .i64 tl, .i .i64 th, .rs 67 ms], .agg [.i .i64 xu, .i .i64 xv, .i .i64 xr, .i .i64 xw], .agg [.i .i64 u, .i .i64 v]], [] => some (g5 N0 os hs st tl th ms xu xv xr xw u v, .b (w5_0 N0 os hs st tl th ms xu xv xr xw u v), [])
  | _, _ => none
-- SPEC 5
end Go.Proofs.Ytoglnllbopcejaa

set_option maxRecDepth 100000
set_option linter.unusedVariables false
namespace Go.Proofs.Ytoglnllbopcejaa
open Go Go.Ev
section
variable {os hs : List (List AV)} {st tl th : Int} {L : List Mk}
end
theorem probeX_cases (os hs : List (List AV)) (st tl th : Int) (L : List Mk) (u v rd wr : Int) : (∃ e, e ≠ 0 ∧ probeX os hs st tl th L u v rd wr = noSk e) ∨
    (probeX os hs st tl th L u v rd wr = (os, hs, st, tl, th, (insM (pr u v rd wr) L).map en, 0) ∧ Fine os hs st tl th L ∧ hasB os hs u v = true ∧ (0 ≤ rd ∧ rd ≤ 2000) ∧ (0 ≤ wr ∧ wr ≤ 2000) ∧ Fine os hs st tl th (insM (pr u v rd wr) L)) := by
  unfold probeX
  cases h1 : checkW os hs (L.map en) st tl th != 0
  · have hF := check_fine.1 (by simpa using h1 : checkW os hs (L.map en) st tl th = 0)
    cases h2 : hasB os hs u v
    · exact .inl ⟨7, by decide, rfl⟩
    · cases h3 : inB rd 0 2000
      · exact .inl ⟨1, by decide, rfl⟩
      · cases h4 : inB wr 0 2000
        · exact .inl ⟨1, by decide, rfl⟩
        · cases h5 : decide (((insM (pr u v rd wr) L).length : Int) > 40)
          · cases h6 : checkW os hs ((insM (pr u v rd wr) L).map en) st tl th != 0
            · have hG := check_fine.1 (by simpa using h6 : checkW os hs ((insM (pr u v rd wr) L).map en) st tl th = 0)
              exact .inr ⟨rfl, hF, rfl, inB_true.1 h3, inB_true.1 h4, hG⟩
            · exact .inl ⟨10, by decide, rfl⟩
          · exact .inl ⟨3, by decide, rfl⟩
  · exact .inl ⟨_, by simpa using h1, rfl⟩
theorem probeX_fine {os hs : List (List AV)} {st tl th : Int} {L : List Mk} {u v rd wr : Int} (hF : Fine os hs st tl th L) (h2 : hasB os hs u v = true) (h3 : 0 ≤ rd ∧ rd ≤ 2000) (h4 : 0 ≤ wr ∧ wr ≤ 2000) (hG : Fine os hs st tl th (insM (pr u v rd wr) L)) :
    probeX os hs st tl th L u v rd wr = (os, hs, st, tl, th, (insM (pr u v rd wr) L).map en, 0) := by
  unfold probeX
  rw [check_fine.2 hF, check_fine.2 hG, h2, inB_true.2 h3, inB_true.2 h4, show decide (((insM (pr u v rd wr) L).length : Int) > 40) = false from decide_eq_false (by have := hG.len; omega)]
  rfl
end Go.Proofs.Ytoglnllbopcejaa

set_option maxRecDepth 100000
set_option linter.unusedVariables false
namespace Go.Proofs.Ytoglnllbopcejaa
open Go Go.Ev
class LC where
  V : Ln
  ok : V = N0
noncomputable def SC [LC] : Ev.Spec := SN LC.V
theorem SC_ok [LC] : SpecOK Try.prog SC := SN_ok LC.ok
end Go.Proofs.Ytoglnllbopcejaa

set_option maxRecDepth 100000
set_option maxHeartbeats 0
set_option linter.unusedVariables false
namespace Go.Proofs.Ytoglnllbopcejaa
open Go Go.Ev
variable [LC]

noncomputable def c12 : Code := match Try.f12.body with | some c => c | _ => .skip
noncomputable def lp12a : Code := loopAt c12 [true, false, true, false]
noncomputable def s12a (ps : List (List AV)) (t5 t6 : Int) (os hs : List (List AV)) (st tl th : Int) (ms m1_0 m1_1 : List (List AV)) (m1_2 m1_3 m1_4 : Int) (m1_5 : List (List AV)) : St :=
  { t := [(1, .rs 43 ps), (2, .p 0 0 0), (4, .p 1 0 0), (5, .i .i64 t5), (6, .i .i64 t6)], m := [(0, .row 30 [[.rs 32 os, .rs 55 hs, .i .i64 st, .i .i64 tl, .i .i64 th, .rs 67 ms]]), (1, .row 30 [[.rs 32 m1_0, .rs 55 m1_1, .i .i64 m1_2, .i .i64 m1_3, .i .i64 m1_4, .rs 67 m1_5]])], nx := 2, nt := 41 }
structure S12a where
  t6 : Int
  os : List (List AV)
  hs : List (List AV)
  st : Int
  tl : Int
  th : Int
  ms : List (List AV)
inductive T12a where
  | x0 (t5' : Int) (t6 : Int) (m0_0 : List (List AV)) (m0_1 : List (List AV)) (m0_2 : Int) (m0_3 : Int) (m0_4 : Int) (m0_5 : List (List AV)) (m1_0' : List (List AV)) (m1_1' : List (List AV)) (m1_2' : Int) (m1_3' : Int) (m1_4' : Int) (m1_5' : List (List AV))
  | x1 (t6 : Int) (m0_0 : List (List AV)) (m0_1 : List (List AV)) (m0_2 : Int) (m0_3 : Int) (m0_4 : Int) (m0_5 : List (List AV))
noncomputable def stp12a (ps : List (List AV)) (t5 : Int) (m1_0 m1_1 : List (List AV)) (m1_2 m1_3 m1_4 : Int) (m1_5 : List (List AV)) (t6 : Int) (os hs : List (List AV)) (st tl th : Int) (ms : List (List AV)) : Lp S12a T12a :=
  cond (decide (t6 < (↑ps.length : Int))) (cond (inb t6 ps.length) (cond (inb t6 ps.length) (cond (inb t6 ps.length) (cond (LC.V.q.g9 os hs st tl th ms (fI (ps.getD t6.toNat []) 0) (fI (ps.getD t6.toNat []) 1) (fI (ps.getD t6.toNat []) 2) (fI (ps.getD t6.toNat []) 3)) (cond ((LC.V.q.p9 os hs st tl th ms (fI (ps.getD t6.toNat []) 0) (fI (ps.getD t6.toNat []) 1) (fI (ps.getD t6.toNat []) 2) (fI (ps.getD t6.toNat []) 3)).snd.snd.snd.snd.snd.snd != 0) (.out (.x0 ((LC.V.q.p9 os hs st tl th ms (fI (ps.getD t6.toNat []) 0) (fI (ps.getD t6.toNat []) 1) (fI (ps.getD t6.toNat []) 2) (fI (ps.getD t6.toNat []) 3)).snd.snd.snd.snd.snd.snd) t6 os hs st tl th ms [] [] 0 0 0 [])) (.go ⟨IntKind.i64.wrap (t6 + 1), (LC.V.q.p9 os hs st tl th ms (fI (ps.getD t6.toNat []) 0) (fI (ps.getD t6.toNat []) 1) (fI (ps.getD t6.toNat []) 2) (fI (ps.getD t6.toNat []) 3)).fst, (LC.V.q.p9 os hs st tl th ms (fI (ps.getD t6.toNat []) 0) (fI (ps.getD t6.toNat []) 1) (fI (ps.getD t6.toNat []) 2) (fI (ps.getD t6.toNat []) 3)).snd.fst, (LC.V.q.p9 os hs st tl th ms (fI (ps.getD t6.toNat []) 0) (fI (ps.getD t6.toNat []) 1) (fI (ps.getD t6.toNat []) 2) (fI (ps.getD t6.toNat []) 3)).snd.snd.fst, (LC.V.q.p9 os hs st tl th ms (fI (ps.getD t6.toNat []) 0) (fI (ps.getD t6.toNat []) 1) (fI (ps.getD t6.toNat []) 2) (fI (ps.getD t6.toNat []) 3)).snd.snd.snd.fst, (LC.V.q.p9 os hs st tl th ms (fI (ps.getD t6.toNat []) 0) (fI (ps.getD t6.toNat []) 1) (fI (ps.getD t6.toNat []) 2) (fI (ps.getD t6.toNat []) 3)).snd.snd.snd.snd.fst, (LC.V.q.p9 os hs st tl th ms (fI (ps.getD t6.toNat []) 0) (fI (ps.getD t6.toNat []) 1) (fI (ps.getD t6.toNat []) 2) (fI (ps.getD t6.toNat []) 3)).snd.snd.snd.snd.snd.fst⟩)) (.bad)) (.bad)) (.bad)) (.bad)) (.out (.x1 t6 os hs st tl th ms))
noncomputable def o12a_0 (ps : List (List AV)) (t5 : Int) (m1_0 m1_1 : List (List AV)) (m1_2 m1_3 m1_4 : Int) (m1_5 : List (List AV)) (t5' t6 : Int) (m0_0 m0_1 : List (List AV)) (m0_2 m0_3 m0_4 : Int) (m0_5 m1_0' m1_1' : List (List AV)) (m1_2' m1_3' m1_4' : Int) (m1_5' : List (List AV)) : St :=
  { t := [(1, .rs 43 ps), (2, .p 0 0 0), (4, .p 1 0 0), (5, .i .i64 t5'), (6, .i .i64 t6)], m := [(0, .row 30 [[.rs 32 m0_0, .rs 55 m0_1, .i .i64 m0_2, .i .i64 m0_3, .i .i64 m0_4, .rs 67 m0_5]]), (1, .row 30 [[.rs 32 m1_0', .rs 55 m1_1', .i .i64 m1_2', .i .i64 m1_3', .i .i64 m1_4', .rs 67 m1_5']])], nx := 2, nt := 41 }
noncomputable def o12a_1 (ps : List (List AV)) (t5 : Int) (m1_0 m1_1 : List (List AV)) (m1_2 m1_3 m1_4 : Int) (m1_5 : List (List AV)) (t6 : Int) (m0_0 m0_1 : List (List AV)) (m0_2 m0_3 m0_4 : Int) (m0_5 : List (List AV)) : St :=
  { t := [(1, .rs 43 ps), (2, .p 0 0 0), (4, .p 1 0 0), (5, .i .i64 t5), (6, .i .i64 t6)], m := [(0, .row 30 [[.rs 32 m0_0, .rs 55 m0_1, .i .i64 m0_2, .i .i64 m0_3, .i .i64 m0_4, .rs 67 m0_5]]), (1, .row 30 [[.rs 32 m1_0, .rs 55 m1_1, .i .i64 m1_2, .i .i64 m1_3, .i .i64 m1_4, .rs 67 m1_5]])], nx := 2, nt := 41 }
noncomputable def ou12a (ps : List (List AV)) (t5 : Int) (m1_0 m1_1 : List (List AV)) (m1_2 m1_3 m1_4 : Int) (m1_5 : List (List AV)) : T12a → Ex × St
  | .x0 t5' t6 m0_0 m0_1 m0_2 m0_3 m0_4 m0_5 m1_0' m1_1' m1_2' m1_3' m1_4' m1_5' => (.ret, o12a_0 ps t5 m1_0 m1_1 m1_2 m1_3 m1_4 m1_5 t5' t6 m0_0 m0_1 m0_2 m0_3 m0_4 m0_5 m1_0' m1_1' m1_2' m1_3' m1_4' m1_5')
  | .x1 t6 m0_0 m0_1 m0_2 m0_3 m0_4 m0_5 => (.ext 0, o12a_1 ps t5 m1_0 m1_1 m1_2 m1_3 m1_4 m1_5 t6 m0_0 m0_1 m0_2 m0_3 m0_4 m0_5)
noncomputable def r12a (ps : List (List AV)) (t5 : Int) (m1_0 m1_1 : List (List AV)) (m1_2 m1_3 m1_4 : Int) (m1_5 : List (List AV)) (t6 : Int) (os hs : List (List AV)) (st tl th : Int) (ms : List (List AV)) : Option T12a := run (fun x => stp12a ps t5 m1_0 m1_1 m1_2 m1_3 m1_4 m1_5 x.t6 x.os x.hs x.st x.tl x.th x.ms) (⟨t6, os, hs, st, tl, th, ms⟩ : S12a)
noncomputable def i12a_0 (ps : List (List AV)) (t5 : Int) (m1_0 m1_1 : List (List AV)) (m1_2 m1_3 m1_4 : Int) (m1_5 : List (List AV)) (t6 : Int) (os hs : List (List AV)) (st tl th : Int) (ms : List (List AV)) : Bool := match r12a ps t5 m1_0 m1_1 m1_2 m1_3 m1_4 m1_5 t6 os hs st tl th ms with
  | some (.x0 _ _ _ _ _ _ _ _ _ _ _ _ _ _) => true
  | _ => false
noncomputable def v12a_0_t5' (ps : List (List AV)) (t5 : Int) (m1_0 m1_1 : List (List AV)) (m1_2 m1_3 m1_4 : Int) (m1_5 : List (List AV)) (t6 : Int) (os hs : List (List AV)) (st tl th : Int) (ms : List (List AV)) : Int := match r12a ps t5 m1_0 m1_1 m1_2 m1_3 m1_4 m1_5 t6 os hs st tl th ms with
  | some (.x0 t5' _ _ _ _ _ _ _ _ _ _ _ _ _) => t5'
  | _ => default
noncomputable def v12a_0_t6 (ps : List (List AV)) (t5 : Int) (m1_0 m1_1 : List (List AV)) (m1_2 m1_3 m1_4 : Int) (m1_5 : List (List AV)) (t6 : Int) (os hs : List (List AV)) (st tl th : Int) (ms : List (List AV)) : Int := match r12a ps t5 m1_0 m1_1 m1_2 m1_3 m1_4 m1_5 t6 os hs st tl th ms with
  | some (.x0 _ t6 _ _ _ _ _ _ _ _ _ _ _ _) => t6
  | _ => default
noncomputable def v12a_0_m0_0 (ps : List (List AV)) (t5 : Int) (m1_0 m1_1 : List (List AV)) (m1_2 m1_3 m1_4 : Int) (m1_5 : List (List AV)) (t6 : Int) (os hs : List (List AV)) (st tl th : Int) (ms : List (List AV)) : List (List AV) := match r12a ps t5 m1_0 m1_1 m1_2 m1_3 m1_4 m1_5 t6 os hs st tl th ms with
  | some (.x0 _ _ m0_0 _ _ _ _ _ _ _ _ _ _ _) => m0_0
  | _ => default
noncomputable def v12a_0_m0_1 (ps : List (List AV)) (t5 : Int) (m1_0 m1_1 : List (List AV)) (m1_2 m1_3 m1_4 : Int) (m1_5 : List (List AV)) (t6 : Int) (os hs : List (List AV)) (st tl th : Int) (ms : List (List AV)) : List (List AV) := match r12a ps t5 m1_0 m1_1 m1_2 m1_3 m1_4 m1_5 t6 os hs st tl th ms with
  | some (.x0 _ _ _ m0_1 _ _ _ _ _ _ _ _ _ _) => m0_1
  | _ => default
noncomputable def v12a_0_m0_2 (ps : List (List AV)) (t5 : Int) (m1_0 m1_1 : List (List AV)) (m1_2 m1_3 m1_4 : Int) (m1_5 : List (List AV)) (t6 : Int) (os hs : List (List AV)) (st tl th : Int) (ms : List (List AV)) : Int := match r12a ps t5 m1_0 m1_1 m1_2 m1_3 m1_4 m1_5 t6 os hs st tl th ms with
  | some (.x0 _ _ _ _ m0_2 _ _ _ _ _ _ _ _ _) => m0_2
  | _ => default
noncomputable def v12a_0_m0_3 (ps : List (List AV)) (t5 : Int) (m1_0 m1_1 : List (List AV)) (m1_2 m1_3 m1_4 : Int) (m1_5 : List (List AV)) (t6 : Int) (os hs : List (List AV)) (st tl th : Int) (ms : List (List AV)) : Int := match r12a ps t5 m1_0 m1_1 m1_2 m1_3 m1_4 m1_5 t6 os hs st tl th ms with
  | some (.x0 _ _ _ _ _ m0_3 _ _ _ _ _ _ _ _) => m0_3
  | _ => default
noncomputable def v12a_0_m0_4 (ps : List (List AV)) (t5 : Int) (m1_0 m1_1 : List (List AV)) (m1_2 m1_3 m1_4 : Int) (m1_5 : List (List AV)) (t6 : Int) (os hs : List (List AV)) (st tl th : Int) (ms : List (List AV)) : Int := match r12a ps t5 m1_0 m1_1 m1_2 m1_3 m1_4 m1_5 t6 os hs st tl th ms with
  | some (.x0 _ _ _ _ _ _ m0_4 _ _ _ _ _ _ _) => m0_4
  | _ => default
noncomputable def v12a_0_m0_5 (ps : List (List AV)) (t5 : Int) (m1_0 m1_1 : List (List AV)) (m1_2 m1_3 m1_4 : Int) (m1_5 : List (List AV)) (t6 : Int) (os hs : List (List AV)) (st tl th : Int) (ms : List (List AV)) : List (List AV) := match r12a ps t5 m1_0 m1_1 m1_2 m1_3 m1_4 m1_5 t6 os hs st tl th ms with
  | some (.x0 _ _ _ _ _ _ _ m0_5 _ _ _ _ _ _) => m0_5
  | _ => default
noncomputable def v12a_0_m1_0' (ps : List (List AV)) (t5 : Int) (m1_0 m1_1 : List (List AV)) (m1_2 m1_3 m1_4 : Int) (m1_5 : List (List AV)) (t6 : Int) (os hs : List (List AV)) (st tl th : Int) (ms : List (List AV)) : List (List AV) := match r12a ps t5 m1_0 m1_1 m1_2 m1_3 m1_4 m1_5 t6 os hs st tl th ms with
  | some (.x0 _ _ _ _ _ _ _ _ m1_0' _ _ _ _ _) => m1_0'
  | _ => default
noncomputable def v12a_0_m1_1' (ps : List (List AV)) (t5 : Int) (m1_0 m1_1 : List (List AV)) (m1_2 m1_3 m1_4 : Int) (m1_5 : List (List AV)) (t6 : Int) (os hs : List (List AV)) (st tl th : Int) (ms : List (List AV)) : List (List AV) := match r12a ps t5 m1_0 m1_1 m1_2 m1_3 m1_4 m1_5 t6 os hs st tl th ms with
  | some (.x0 _ _ _ _ _ _ _ _ _ m1_1' _ _ _ _) => m1_1'
  | _ => default
noncomputable def v12a_0_m1_2' (ps : List (List AV)) (t5 : Int) (m1_0 m1_1 : List (List AV)) (m1_2 m1_3 m1_4 : Int) (m1_5 : List (List AV)) (t6 : Int) (os hs : List (List AV)) (st tl th : Int) (ms : List (List AV)) : Int := match r12a ps t5 m1_0 m1_1 m1_2 m1_3 m1_4 m1_5 t6 os hs st tl th ms with
  | some (.x0 _ _ _ _ _ _ _ _ _ _ m1_2' _ _ _) => m1_2'
  | _ => default
noncomputable def v12a_0_m1_3' (ps : List (List AV)) (t5 : Int) (m1_0 m1_1 : List (List AV)) (m1_2 m1_3 m1_4 : Int) (m1_5 : List (List AV)) (t6 : Int) (os hs : List (List AV)) (st tl th : Int) (ms : List (List AV)) : Int := match r12a ps t5 m1_0 m1_1 m1_2 m1_3 m1_4 m1_5 t6 os hs st tl th ms with
  | some (.x0 _ _ _ _ _ _ _ _ _ _ _ m1_3' _ _) => m1_3'
  | _ => default
noncomputable def v12a_0_m1_4' (ps : List (List AV)) (t5 : Int) (m1_0 m1_1 : List (List AV)) (m1_2 m1_3 m1_4 : Int) (m1_5 : List (List AV)) (t6 : Int) (os hs : List (List AV)) (st tl th : Int) (ms : List (List AV)) : Int := match r12a ps t5 m1_0 m1_1 m1_2 m1_3 m1_4 m1_5 t6 os hs st tl th ms with
  | some (.x0 _ _ _ _ _ _ _ _ _ _ _ _ m1_4' _) => m1_4'
  | _ => default
noncomputable def v12a_0_m1_5' (ps : List (List AV)) (t5 : Int) (m1_0 m1_1 : List (List AV)) (m1_2 m1_3 m1_4 : Int) (m1_5 : List (List AV)) (t6 : Int) (os hs : List (List AV)) (st tl th : Int) (ms : List (List AV)) : List (List AV) := match r12a ps t5 m1_0 m1_1 m1_2 m1_3 m1_4 m1_5 t6 os hs st tl th ms with
  | some (.x0 _ _ _ _ _ _ _ _ _ _ _ _ _ m1_5') => m1_5'
  | _ => default
noncomputable def i12a_1 (ps : List (List AV)) (t5 : Int) (m1_0 m1_1 : List (List AV)) (m1_2 m1_3 m1_4 : Int) (m1_5 : List (List AV)) (t6 : Int) (os hs : List (List AV)) (st tl th : Int) (ms : List (List AV)) : Bool := match r12a ps t5 m1_0 m1_1 m1_2 m1_3 m1_4 m1_5 t6 os hs st tl th ms with
  | some (.x1 _ _ _ _ _ _ _) => true
  | _ => false
noncomputable def v12a_1_t6 (ps : List (List AV)) (t5 : Int) (m1_0 m1_1 : List (List AV)) (m1_2 m1_3 m1_4 : Int) (m1_5 : List (List AV)) (t6 : Int) (os hs : List (List AV)) (st tl th : Int) (ms : List (List AV)) : Int := match r12a ps t5 m1_0 m1_1 m1_2 m1_3 m1_4 m1_5 t6 os hs st tl th ms with
  | some (.x1 t6 _ _ _ _ _ _) => t6
  | _ => default
noncomputable def v12a_1_m0_0 (ps : List (List AV)) (t5 : Int) (m1_0 m1_1 : List (List AV)) (m1_2 m1_3 m1_4 : Int) (m1_5 : List (List AV)) (t6 : Int) (os hs : List (List AV)) (st tl th : Int) (ms : List (List AV)) : List (List AV) := match r12a ps t5 m1_0 m1_1 m1_2 m1_3 m1_4 m1_5 t6 os hs st tl th ms with
  | some (.x1 _ m0_0 _ _ _ _ _) => m0_0
  | _ => default
noncomputable def v12a_1_m0_1 (ps : List (List AV)) (t5 : Int) (m1_0 m1_1 : List (List AV)) (m1_2 m1_3 m1_4 : Int) (m1_5 : List (List AV)) (t6 : Int) (os hs : List (List AV)) (st tl th : Int) (ms : List (List AV)) : List (List AV) := match r12a ps t5 m1_0 m1_1 m1_2 m1_3 m1_4 m1_5 t6 os hs st tl th ms with
  | some (.x1 _ _ m0_1 _ _ _ _) => m0_1
  | _ => default
noncomputable def v12a_1_m0_2 (ps : List (List AV)) (t5 : Int) (m1_0 m1_1 : List (List AV)) (m1_2 m1_3 m1_4 : Int) (m1_5 : List (List AV)) (t6 : Int) (os hs : List (List AV)) (st tl th : Int) (ms : List (List AV)) : Int := match r12a ps t5 m1_0 m1_1 m1_2 m1_3 m1_4 m1_5 t6 os hs st tl th ms with
  | some (.x1 _ _ _ m0_2 _ _ _) => m0_2
  | _ => default
noncomputable def v12a_1_m0_3 (ps : List (List AV)) (t5 : Int) (m1_0 m1_1 : List (List AV)) (m1_2 m1_3 m1_4 : Int) (m1_5 : List (List AV)) (t6 : Int) (os hs : List (List AV)) (st tl th : Int) (ms : List (List AV)) : Int := match r12a ps t5 m1_0 m1_1 m1_2 m1_3 m1_4 m1_5 t6 os hs st tl th ms with
  | some (.x1 _ _ _ _ m0_3 _ _) => m0_3
  | _ => default
noncomputable def v12a_1_m0_4 (ps : List (List AV)) (t5 : Int) (m1_0 m1_1 : List (List AV)) (m1_2 m1_3 m1_4 : Int) (m1_5 : List (List AV)) (t6 : Int) (os hs : List (List AV)) (st tl th : Int) (ms : List (List AV)) : Int := match r12a ps t5 m1_0 m1_1 m1_2 m1_3 m1_4 m1_5 t6 os hs st tl th ms with
  | some (.x1 _ _ _ _ _ m0_4 _) => m0_4
  | _ => default
noncomputable def v12a_1_m0_5 (ps : List (List AV)) (t5 : Int) (m1_0 m1_1 : List (List AV)) (m1_2 m1_3 m1_4 : Int) (m1_5 : List (List AV)) (t6 : Int) (os hs : List (List AV)) (st tl th : Int) (ms : List (List AV)) : List (List AV) := match r12a ps t5 m1_0 m1_1 m1_2 m1_3 m1_4 m1_5 t6 os hs st tl th ms with
  | some (.x1 _ _ _ _ _ _ m0_5) => m0_5
  | _ => default
noncomputable def q12a (ps : List (List AV)) (t5 t6 : Int) (os hs : List (List AV)) (st tl th : Int) (ms m1_0 m1_1 : List (List AV)) (m1_2 m1_3 m1_4 : Int) (m1_5 : List (List AV)) : List (Bool × Ex × St) := [(i12a_0 ps t5 m1_0 m1_1 m1_2 m1_3 m1_4 m1_5 t6 os hs st tl th ms, .ret, o12a_0 ps t5 m1_0 m1_1 m1_2 m1_3 m1_4 m1_5 (v12a_0_t5' ps t5 m1_0 m1_1 m1_2 m1_3 m1_4 m1_5 t6 os hs st tl th ms) (v12a_0_t6 ps t5 m1_0 m1_1 m1_2 m1_3 m1_4 m1_5 t6 os hs st tl th ms) (v12a_0_m0_0 ps t5 m1_0 m1_1 m1_2 m1_3 m1_4 m1_5 t6 os hs st tl th ms) (v12a_0_m0_1 ps t5 m1_0 m1_1 m1_2 m1_3 m1_4 m1_5 t6 os hs st tl th ms) (v12a_0_m0_2 ps t5 m1_0 m1_1 m1_2 m1_3 m1_4 m1_5 t6 os hs st tl th ms) (v12a_0_m0_3 ps t5 m1_0 m1_1 m1_2 m1_3 m1_4 m1_5 t6 os hs st tl th ms) (v12a_0_m0_4 ps t5 m1_0 m1_1 m1_2 m1_3 m1_4 m1_5 t6 os hs st tl th ms) (v12a_0_m0_5 ps t5 m1_0 m1_1 m1_2 m1_3 m1_4 m1_5 t6 os hs st tl th ms) (v12a_0_m1_0' ps t5 m1_0 m1_1 m1_2 m1_3 m1_4 m1_5 t6 os hs st tl th ms) (v12a_0_m1_1' ps t5 m1_0 m1_1 m1_2 m1_3 m1_4 m1_5 t6 os hs st tl th ms) (v12a_0_m1_2' ps t5 m1_0 m1_1 m1_2 m1_3 m1_4 m1_5 t6 os hs st tl th ms) (v12a_0_m1_3' ps t5 m1_0 m1_1 m1_2 m1_3 m1_4 m1_5 t6 os hs st tl th ms) (v12a_0_m1_4' ps t5 m1_0 m1_1 m1_2 m1_3 m1_4 m1_5 t6 os hs st tl th ms) (v12a_0_m1_5' ps t5 m1_0 m1_1 m1_2 m1_3 m1_4 m1_5 t6 os hs st tl th ms)), (i12a_1 ps t5 m1_0 m1_1 m1_2 m1_3 m1_4 m1_5 t6 os hs st tl th ms, .ext 0, o12a_1 ps t5 m1_0 m1_1 m1_2 m1_3 m1_4 m1_5 (v12a_1_t6 ps t5 m1_0 m1_1 m1_2 m1_3 m1_4 m1_5 t6 os hs st tl th ms) (v12a_1_m0_0 ps t5 m1_0 m1_1 m1_2 m1_3 m1_4 m1_5 t6 os hs st tl th ms) (v12a_1_m0_1 ps t5 m1_0 m1_1 m1_2 m1_3 m1_4 m1_5 t6 os hs st tl th ms) (v12a_1_m0_2 ps t5 m1_0 m1_1 m1_2 m1_3 m1_4 m1_5 t6 os hs st tl th ms) (v12a_1_m0_3 ps t5 m1_0 m1_1 m1_2 m1_3 m1_4 m1_5 t6 os hs st tl th ms) (v12a_1_m0_4 ps t5 m1_0 m1_1 m1_2 m1_3 m1_4 m1_5 t6 os hs st tl th ms) (v12a_1_m0_5 ps t5 m1_0 m1_1 m1_2 m1_3 m1_4 m1_5 t6 os hs st tl th ms))]
noncomputable def l12a (st : St) : Option (List (Bool × Ex × St)) := qget [.rs 43, .p 0 0 0, .p 1 0 0, .i .i64, .i .i64] [(0, .row 30 [.l [.rs 32, .rs 55, .i .i64, .i .i64, .i .i64, .rs 67]]), (1, .row 30 [.l [.rs 32, .rs 55, .i .i64, .i .i64, .i .i64, .rs 67]])] 2 41 (normW Try.prog [(1, none), (2, none), (4, none), (5, none), (6, none)] 2 st) fun ls => q12a (lLL ls 0) (lI ls 1) (lI ls 2) (lLL ls 3) (lLL ls 4) (lI ls 5) (lI ls 6) (lI ls 7) (lLL ls 8) (lLL ls 9) (lLL ls 10) (lI ls 11) (lI ls 12) (lI ls 13) (lLL ls 14)
noncomputable def L12 : LSpec := fun p st => match p with
  | [false, true, false, true] => l12a st
  | _ => none
theorem is12a_0 (ps : List (List AV)) (t5 : Int) (m1_0 m1_1 : List (List AV)) (m1_2 m1_3 m1_4 : Int) (m1_5 : List (List AV)) (t6 : Int) (os hs : List (List AV)) (st tl th : Int) (ms : List (List AV)) (h : i12a_0 ps t5 m1_0 m1_1 m1_2 m1_3 m1_4 m1_5 t6 os hs st tl th ms = true) : r12a ps t5 m1_0 m1_1 m1_2 m1_3 m1_4 m1_5 t6 os hs st tl th ms = some (.x0 (v12a_0_t5' ps t5 m1_0 m1_1 m1_2 m1_3 m1_4 m1_5 t6 os hs st tl th ms) (v12a_0_t6 ps t5 m1_0 m1_1 m1_2 m1_3 m1_4 m1_5 t6 os hs st tl th ms) (v12a_0_m0_0 ps t5 m1_0 m1_1 m1_2 m1_3 m1_4 m1_5 t6 os hs st tl th ms) (v12a_0_m0_1 ps t5 m1_0 m1_1 m1_2 m1_3 m1_4 m1_5 t6 os hs st tl th ms) (v12a_0_m0_2 ps t5 m1_0 m1_1 m1_2 m1_3 m1_4 m1_5 t6 os hs st tl th ms) (v12a_0_m0_3 ps t5 m1_0 m1_1 m1_2 m1_3 m1_4 m1_5 t6 os hs st tl th ms) (v12a_0_m0_4 ps t5 m1_0 m1_1 m1_2 m1_3 m1_4 m1_5 t6 os hs st tl th ms) (v12a_0_m0_5 ps t5 m1_0 m1_1 m1_2 m1_3 m1_4 m1_5 t6 os hs st tl th ms) (v12a_0_m1_0' ps t5 m1_0 m1_1 m1_2 m1_3 m1_4 m1_5 t6 os hs st tl th ms) (v12a_0_m1_1' ps t5 m1_0 m1_1 m1_2 m1_3 m1_4 m1_5 t6 os hs st tl th ms) (v12a_0_m1_2' ps t5 m1_0 m1_1 m1_2 m1_3 m1_4 m1_5 t6 os hs st tl th ms) (v12a_0_m1_3' ps t5 m1_0 m1_1 m1_2 m1_3 m1_4 m1_5 t6 os hs st tl th ms) (v12a_0_m1_4' ps t5 m1_0 m1_1 m1_2 m1_3 m1_4 m1_5 t6 os hs st tl th ms) (v12a_0_m1_5' ps t5 m1_0 m1_1 m1_2 m1_3 m1_4 m1_5 t6 os hs st tl th ms)) := by
  unfold i12a_0 at h
  unfold v12a_0_t5' v12a_0_t6 v12a_0_m0_0 v12a_0_m0_1 v12a_0_m0_2 v12a_0_m0_3 v12a_0_m0_4 v12a_0_m0_5 v12a_0_m1_0' v12a_0_m1_1' v12a_0_m1_2' v12a_0_m1_3' v12a_0_m1_4' v12a_0_m1_5'
  generalize r12a ps t5 m1_0 m1_1 m1_2 m1_3 m1_4 m1_5 t6 os hs st tl th ms = r at h ⊢
  rcases r with _ | y
  · cases h
  · cases y <;> first | rfl | cases h
theorem is12a_1 (ps : List (List AV)) (t5 : Int) (m1_0 m1_1 : List (List AV)) (m1_2 m1_3 m1_4 : Int) (m1_5 : List (List AV)) (t6 : Int) (os hs : List (List AV)) (st tl th : Int) (ms : List (List AV)) (h : i12a_1 ps t5 m1_0 m1_1 m1_2 m1_3 m1_4 m1_5 t6 os hs st tl th ms = true) : r12a ps t5 m1_0 m1_1 m1_2 m1_3 m1_4 m1_5 t6 os hs st tl th ms = some (.x1 (v12a_1_t6 ps t5 m1_0 m1_1 m1_2 m1_3 m1_4 m1_5 t6 os hs st tl th ms) (v12a_1_m0_0 ps t5 m1_0 m1_1 m1_2 m1_3 m1_4 m1_5 t6 os hs st tl th ms) (v12a_1_m0_1 ps t5 m1_0 m1_1 m1_2 m1_3 m1_4 m1_5 t6 os hs st tl th ms) (v12a_1_m0_2 ps t5 m1_0 m1_1 m1_2 m1_3 m1_4 m1_5 t6 os hs st tl th ms) (v12a_1_m0_3 ps t5 m1_0 m1_1 m1_2 m1_3 m1_4 m1_5 t6 os hs st tl th ms) (v12a_1_m0_4 ps t5 m1_0 m1_1 m1_2 m1_3 m1_4 m1_5 t6 os hs st tl th ms) (v12a_1_m0_5 ps t5 m1_0 m1_1 m1_2 m1_3 m1_4 m1_5 t6 os hs st tl th ms)) := by
  unfold i12a_1 at h
  unfold v12a_1_t6 v12a_1_m0_0 v12a_1_m0_1 v12a_1_m0_2 v12a_1_m0_3 v12a_1_m0_4 v12a_1_m0_5
  generalize r12a ps t5 m1_0 m1_1 m1_2 m1_3 m1_4 m1_5 t6 os hs st tl th ms = r at h ⊢
  rcases r with _ | y
  · cases h
  · cases y <;> first | rfl | cases h
theorem round12a (ps : List (List AV)) (t5 t6 : Int) (os hs : List (List AV)) (st tl th : Int) (ms m1_0 m1_1 : List (List AV)) (m1_2 m1_3 m1_4 : Int) (m1_5 : List (List AV)) : round Try.prog SC (ro 12) L12 lp12a [false, true, false, true] [(1, none), (2, none), (4, none), (5, none), (6, none)] 2 (s12a ps t5 t6 os hs st tl th ms m1_0 m1_1 m1_2 m1_3 m1_4 m1_5) =
    cond (decide (t6 < (↑ps.length : Int))) (cond (inb t6 ps.length) (cond (inb t6 ps.length) (cond (inb t6 ps.length) (cond (LC.V.q.g9 os hs st tl th ms (fI (ps.getD t6.toNat []) 0) (fI (ps.getD t6.toNat []) 1) (fI (ps.getD t6.toNat []) 2) (fI (ps.getD t6.toNat []) 3)) (cond ((LC.V.q.p9 os hs st tl th ms (fI (ps.getD t6.toNat []) 0) (fI (ps.getD t6.toNat []) 1) (fI (ps.getD t6.toNat []) 2) (fI (ps.getD t6.toNat []) 3)).snd.snd.snd.snd.snd.snd != 0) (some (.ret, o12a_0 ps t5 m1_0 m1_1 m1_2 m1_3 m1_4 m1_5 ((LC.V.q.p9 os hs st tl th ms (fI (ps.getD t6.toNat []) 0) (fI (ps.getD t6.toNat []) 1) (fI (ps.getD t6.toNat []) 2) (fI (ps.getD t6.toNat []) 3)).snd.snd.snd.snd.snd.snd) t6 os hs st tl th ms [] [] 0 0 0 [])) (some (.nrm, s12a ps t5 (IntKind.i64.wrap (t6 + 1)) ((LC.V.q.p9 os hs st tl th ms (fI (ps.getD t6.toNat []) 0) (fI (ps.getD t6.toNat []) 1) (fI (ps.getD t6.toNat []) 2) (fI (ps.getD t6.toNat []) 3)).fst) ((LC.V.q.p9 os hs st tl th ms (fI (ps.getD t6.toNat []) 0) (fI (ps.getD t6.toNat []) 1) (fI (ps.getD t6.toNat []) 2) (fI (ps.getD t6.toNat []) 3)).snd.fst) ((LC.V.q.p9 os hs st tl th ms (fI (ps.getD t6.toNat []) 0) (fI (ps.getD t6.toNat []) 1) (fI (ps.getD t6.toNat []) 2) (fI (ps.getD t6.toNat []) 3)).snd.snd.fst) ((LC.V.q.p9 os hs st tl th ms (fI (ps.getD t6.toNat []) 0) (fI (ps.getD t6.toNat []) 1) (fI (ps.getD t6.toNat []) 2) (fI (ps.getD t6.toNat []) 3)).snd.snd.snd.fst) ((LC.V.q.p9 os hs st tl th ms (fI (ps.getD t6.toNat []) 0) (fI (ps.getD t6.toNat []) 1) (fI (ps.getD t6.toNat []) 2) (fI (ps.getD t6.toNat []) 3)).snd.snd.snd.snd.fst) ((LC.V.q.p9 os hs st tl th ms (fI (ps.getD t6.toNat []) 0) (fI (ps.getD t6.toNat []) 1) (fI (ps.getD t6.toNat []) 2) (fI (ps.getD t6.toNat []) 3)).snd.snd.snd.snd.snd.fst) m1_0 m1_1 m1_2 m1_3 m1_4 m1_5))) (none)) (none)) (none)) (none)) (some (.ext 0, o12a_1 ps t5 m1_0 m1_1 m1_2 m1_3 m1_4 m1_5 t6 os hs st tl th ms)) := by kernel_rfl
theorem rnd12a (ps : List (List AV)) (t5 : Int) (m1_0 m1_1 : List (List AV)) (m1_2 m1_3 m1_4 : Int) (m1_5 : List (List AV)) (x : S12a) : round Try.prog SC (ro 12) L12 lp12a [false, true, false, true] [(1, none), (2, none), (4, none), (5, none), (6, none)] 2 ((fun x => s12a ps t5 x.t6 x.os x.hs x.st x.tl x.th x.ms m1_0 m1_1 m1_2 m1_3 m1_4 m1_5) x) = toR (fun x => s12a ps t5 x.t6 x.os x.hs x.st x.tl x.th x.ms m1_0 m1_1 m1_2 m1_3 m1_4 m1_5) (ou12a ps t5 m1_0 m1_1 m1_2 m1_3 m1_4 m1_5) (stp12a ps t5 m1_0 m1_1 m1_2 m1_3 m1_4 m1_5 x.t6 x.os x.hs x.st x.tl x.th x.ms) := by
  refine (round12a _ _ _ _ _ _ _ _ _ _ _ _ _ _ _ ).trans ?_
  unfold stp12a
  simp only [toR_cond]
  rfl
theorem lokb12a (ps : List (List AV)) (t5 t6 : Int) (os hs : List (List AV)) (st tl th : Int) (ms m1_0 m1_1 : List (List AV)) (m1_2 m1_3 m1_4 : Int) (m1_5 : List (List AV)) {e : Ex} {s : St} (hch : Chosen (q12a ps t5 t6 os hs st tl th ms m1_0 m1_1 m1_2 m1_3 m1_4 m1_5) e s) : LB Try.prog SC (ro 12) L12 lp12a [false, true, false, true] [(1, none), (2, none), (4, none), (5, none), (6, none)] 2 (s12a ps t5 t6 os hs st tl th ms m1_0 m1_1 m1_2 m1_3 m1_4 m1_5) e s := by
  unfold q12a at hch
  have main := fun y h => LB_run (x := (⟨t6, os, hs, st, tl, th, ms⟩ : S12a)) (y := y) (nb := 2) (fun y => by cases y <;> simp [ou12a]) (rnd12a ps t5 m1_0 m1_1 m1_2 m1_3 m1_4 m1_5) h
  obtain ⟨x, hx, hg, rfl, rfl⟩ := chosen_any hch
  simp only [List.mem_cons, List.not_mem_nil, or_false] at hx
  rcases hx with rfl | rfl
  · exact main _ (is12a_0 ps t5 m1_0 m1_1 m1_2 m1_3 m1_4 m1_5 t6 os hs st tl th ms hg)
  · exact main _ (is12a_1 ps t5 m1_0 m1_1 m1_2 m1_3 m1_4 m1_5 t6 os hs st tl th ms hg)
theorem lok12a {st : St} {outs : List (Bool × Ex × St)} {e : Ex} {s : St} (hl : l12a st = some outs) (hch : Chosen outs e s) :
    ∃ keep nb, 0 ≤ nb ∧ LB Try.prog SC (ro 12) L12 lp12a [false, true, false, true] keep nb st e s := by
  unfold l12a at hl
  obtain ⟨ls, hno, rfl⟩ := qget_some hl
  have hno := normW_norm hno
  refine ⟨_, _, ?_, .enterQ hno (s2 := s12a (lLL ls 0) (lI ls 1) (lI ls 2) (lLL ls 3) (lLL ls 4) (lI ls 5) (lI ls 6) (lI ls 7) (lLL ls 8) (lLL ls 9) (lLL ls 10) (lI ls 11) (lI ls 12) (lI ls 13) (lLL ls 14)) (by kernel_rfl) (lokb12a _ _ _ _ _ _ _ _ _ _ _ _ _ _ _ hch)⟩
  decide
theorem L12_ok (q : Pl) (c : Code) (hq : locate c12 q.reverse = some (.loop c)) (st : St) (outs : List (Bool × Ex × St)) (e : Ex) (s : St) (hl : L12 q st = some outs) (hch : Chosen outs e s) :
    ∃ keep nb, 0 ≤ nb ∧ LB Try.prog SC (ro 12) L12 c q keep nb st e s := by
  unfold L12 at hl
  split at hl
  · have : locate c12 ([false, true, false, true] : Pl).reverse = some (.loop lp12a) := by kernel_rfl
    rw [this] at hq
    cases hq
    exact lok12a hl hch
  · cases hl
theorem lok12 : LOK Try.prog SC (ro 12) L12 0 false c12 [] :=
  lok_lo L12_ok c12 [] false (locate_nil _) (by kernel_rfl)
noncomputable def t12 (os hs : List (List AV)) (st tl th : Int) (ms ps : List (List AV)) : Tr ((List (List AV)) × (List (List AV)) × (Int) × (Int) × (Int) × (List (List AV)) × (Int)) :=
  .cn (i12a_0 ps 0 [] [] 0 0 0 [] 0 os hs st tl th ms) (.lf (v12a_0_m1_0' ps 0 [] [] 0 0 0 [] 0 os hs st tl th ms, v12a_0_m1_1' ps 0 [] [] 0 0 0 [] 0 os hs st tl th ms, v12a_0_m1_2' ps 0 [] [] 0 0 0 [] 0 os hs st tl th ms, v12a_0_m1_3' ps 0 [] [] 0 0 0 [] 0 os hs st tl th ms, v12a_0_m1_4' ps 0 [] [] 0 0 0 [] 0 os hs st tl th ms, v12a_0_m1_5' ps 0 [] [] 0 0 0 [] 0 os hs st tl th ms, v12a_0_t5' ps 0 [] [] 0 0 0 [] 0 os hs st tl th ms)) (.cn (i12a_1 ps 0 [] [] 0 0 0 [] 0 os hs st tl th ms) (.lf (v12a_1_m0_0 ps 0 [] [] 0 0 0 [] 0 os hs st tl th ms, v12a_1_m0_1 ps 0 [] [] 0 0 0 [] 0 os hs st tl th ms, v12a_1_m0_2 ps 0 [] [] 0 0 0 [] 0 os hs st tl th ms, v12a_1_m0_3 ps 0 [] [] 0 0 0 [] 0 os hs st tl th ms, v12a_1_m0_4 ps 0 [] [] 0 0 0 [] 0 os hs st tl th ms, v12a_1_m0_5 ps 0 [] [] 0 0 0 [] 0 os hs st tl th ms, 0)) (.nn))
noncomputable def g12 (os hs : List (List AV)) (st tl th : Int) (ms ps : List (List AV)) : Bool := (t12 os hs st tl th ms ps).g
noncomputable def w12_0 (os hs : List (List AV)) (st tl th : Int) (ms ps : List (List AV)) : List (List AV) := (t12 os hs st tl th ms ps).val.1
noncomputable def w12_1 (os hs : List (List AV)) (st tl th : Int) (ms ps : List (List AV)) : List (List AV) := (t12 os hs st tl th ms ps).val.2.1
noncomputable def w12_2 (os hs : List (List AV)) (st tl th : Int) (ms ps : List (List AV)) : Int := (t12 os hs st tl th ms ps).val.2.2.1
noncomputable def w12_3 (os hs : List (List AV)) (st tl th : Int) (ms ps : List (List AV)) : Int := (t12 os hs st tl th ms ps).val.2.2.2.1
noncomputable def w12_4 (os hs : List (List AV)) (st tl th : Int) (ms ps : List (List AV)) : Int := (t12 os hs st tl th ms ps).val.2.2.2.2.1
noncomputable def w12_5 (os hs : List (List AV)) (st tl th : Int) (ms ps : List (List AV)) : List (List AV) := (t12 os hs st tl th ms ps).val.2.2.2.2.2.1
noncomputable def w12_6 (os hs : List (List AV)) (st tl th : Int) (ms ps : List (List AV)) : Int := (t12 os hs st tl th ms ps).val.2.2.2.2.2.2
theorem eq12 (os hs : List (List AV)) (st tl th : Int) (ms ps : List (List AV)) : evF Try.prog SC (ro 12) L12 Try.f12 [.agg [.rs 32 os, .rs 55 hs, .i .i64 st, .i .i64 tl, .i .i64 th, .rs 67 ms], .rs 43 ps] = (t12 os hs st tl th ms ps).opt (fun (x : (List (List AV)) × (List (List AV)) × (Int) × (Int) × (Int) × (List (List AV)) × (Int)) => (.tup [.agg [.rs 32 x.1, .rs 55 x.2.1, .i .i64 x.2.2.1, .i .i64 x.2.2.2.1, .i .i64 x.2.2.2.2.1, .rs 67 x.2.2.2.2.2.1], .i .i64 x.2.2.2.2.2.2] : AV)) := by kernel_rfl
theorem con12 (os hs : List (List AV)) (st tl th : Int) (ms ps : List (List AV)) (h : g12 os hs st tl th ms ps = true) : Con Try.prog 12 [.agg [.rs 32 os, .rs 55 hs, .i .i64 st, .i .i64 tl, .i .i64 th, .rs 67 ms], .rs 43 ps] [] (.tup [.agg [.rs 32 (w12_0 os hs st tl th ms ps), .rs 55 (w12_1 os hs st tl th ms ps), .i .i64 (w12_2 os hs st tl th ms ps), .i .i64 (w12_3 os hs st tl th ms ps), .i .i64 (w12_4 os hs st tl th ms ps), .rs 67 (w12_5 os hs st tl th ms ps)], .i .i64 (w12_6 os hs st tl th ms ps)]) [] :=
  con_of SC_ok mixed Try.func12 (c := c12) rfl (names 12 _ Try.func12) lok12 ((eq12 os hs st tl th ms ps).trans (Tr.sound _ _ h))
noncomputable def e12 (args : List AV) (rows : List Blk) : Option (Bool × AV × List Blk) := match args, rows with
  | [.agg [.rs 32 os, .rs 55 hs, .i .i64 st, .i .i64 tl, .i .i64 th, .rs 67 ms], .rs 43 ps], [] => some (g12 os hs st tl th ms ps, .tup [.agg [.rs 32 (w12_0 os hs st tl th ms ps), .rs 55 (w12_1 os hs st tl th ms ps), .i .i64 (w12_2 os hs st tl th ms ps), .i .i64 (w12_3 os hs st tl th ms ps), .i .i64 (w12_4 os hs st tl th ms ps), .rs 67 (w12_5 os hs st tl th ms ps)], .i .i64 (w12_6 os hs st tl th ms ps)], [])
  | _, _ => none
-- SPEC 12
end Go.Proofs.Ytoglnllbopcejaa

set_option maxRecDepth 100000
set_option linter.unusedVariables false
namespace Go.Proofs.Ytoglnllbopcejaa
open Go Go.Ev
noncomputable instance lc0 : LC := ⟨N0, rfl⟩
structure Lo where
  n : Ln
  g12 : List (List AV) → List (List AV) → Int → Int → Int → List (List AV) → List (List AV) → Bool
  p12 : List (List AV) → List (List AV) → Int → Int → Int → List (List AV) → List (List AV) → (List (List AV)) × (List (List AV)) × Int × Int × Int × (List (List AV)) × Int
noncomputable def O0 : Lo := ⟨N0, g12, fun os hs st tl th ms ps => (t12 os hs st tl th ms ps).val⟩
class LO where
  V : Lo
  ok : V = O0
noncomputable def e12q [LO] (args : List AV) (rows : List Blk) : Option (Bool × AV × List Blk) := match args, rows with
  | [.agg [.rs a os, .rs b hs, .i .i64 st, .i .i64 tl, .i .i64 th, .rs c ms], .rs d ps], [] => cond (Nat.beq a 32 && (Nat.beq b 55 && (Nat.beq c 67 && Nat.beq d 43))) (some (LO.V.g12 os hs st tl th ms ps, .tup [.agg [.rs 32 (LO.V.p12 os hs st tl th ms ps).1, .rs 55 (LO.V.p12 os hs st tl th ms ps).2.1, .i .i64 (LO.V.p12 os hs st tl th ms ps).2.2.1, .i .i64 (LO.V.p12 os hs st tl th ms ps).2.2.2.1, .i .i64 (LO.V.p12 os hs st tl th ms ps).2.2.2.2.1, .rs 67 (LO.V.p12 os hs st tl th ms ps).2.2.2.2.2.1], .i .i64 (LO.V.p12 os hs st tl th ms ps).2.2.2.2.2.2], [])) none
  | _, _ => none
theorem e12q_ok [LO] (args : List AV) (rows : List Blk) (pre : Bool) (v : AV) (rows' : List Blk) (h : e12q args rows = some (pre, v, rows')) (hp : pre = true) : Con Try.prog 12 args rows v rows' := by
  unfold e12q at h
  rw [LO.ok] at h
  split at h <;> first | (cases h; done) | skip
  obtain ⟨h1, h2⟩ := cond_some2 h
  clear h
  simp only [Bool.and_eq_true] at h1
  obtain ⟨q0, q1, q2, q3⟩ := h1
  obtain rfl := Nat.eq_of_beq_eq_true q0
  obtain rfl := Nat.eq_of_beq_eq_true q1
  obtain rfl := Nat.eq_of_beq_eq_true q2
  obtain rfl := Nat.eq_of_beq_eq_true q3
  cases h2
  exact con12 _ _ _ _ _ _ _ hp
noncomputable def SO [LO] : Ev.Spec := insS 12 e12q (SL LO.V.n.q)
theorem SO_ok [LO] : SpecOK Try.prog SO := insS_ok e12q_ok (SL_ok (by rw [LO.ok]; rfl))
end Go.Proofs.Ytoglnllbopcejaa

set_option maxRecDepth 100000
set_option maxHeartbeats 0
set_option linter.unusedVariables false
namespace Go.Proofs.Ytoglnllbopcejaa
open Go Go.Ev

noncomputable def c4 : Code := match Try.f4.body with | some c => c | _ => .skip
noncomputable def lp4a : Code := loopAt c4 [true, true, true, true, true, false, true, false]
noncomputable def s4a (ps os hs : List (List AV)) (st tl th : Int) (ms : List (List AV)) (t6 : Bool) (t8 t9 : Int) (t10 : List (List AV)) (t11 : Int) (m20_0 m20_1 : List (List AV)) (m20_2 m20_3 m20_4 : Int) (m20_5 : List (List AV)) : St :=
  { t := [(1, .rs 43 ps), (3, .rp [.sl 32, .sl 55, .int .i64, .int .i64, .int .i64, .sl 67] [.rs 32 os, .rs 55 hs, .i .i64 st, .i .i64 tl, .i .i64 th, .rs 67 ms] 0), (6, .b t6), (7, .p 20 0 0), (8, .i .i64 t8), (9, .i .i64 t9), (10, .gv 21 43 t10), (11, .i .i64 t11)], m := [(21, .fr 43), (0, .dead), (1, .dead), (2, .dead), (3, .dead), (4, .dead), (5, .dead), (6, .dead), (7, .dead), (8, .dead), (9, .dead), (10, .dead), (11, .dead), (12, .dead), (13, .dead), (14, .dead), (15, .dead), (16, .dead), (17, .dead), (18, .dead), (19, .dead), (20, .row 30 [[.rs 32 m20_0, .rs 55 m20_1, .i .i64 m20_2, .i .i64 m20_3, .i .i64 m20_4, .rs 67 m20_5]])], nx := 22, nt := 80 }
structure S4a where
  t10 : List (List AV)
  t11 : Int
inductive T4a where
  | x0 (t10 : List (List AV)) (t11 : Int)
noncomputable def stp4a (ps os hs : List (List AV)) (st tl th : Int) (ms : List (List AV)) (t6 : Bool) (t8 t9 : Int) (m20_0 m20_1 : List (List AV)) (m20_2 m20_3 m20_4 : Int) (m20_5 t10 : List (List AV)) (t11 : Int) : Lp S4a T4a :=
  cond (decide (t11 ≥ 0)) (cond (decide ((↑ps.length : Int) = 0)) (.bad) (cond (inb ((IntKind.i64.wrap (t11 + t9)).tmod (↑ps.length : Int)) ps.length) (cond ((t10.length + [[AV.i IntKind.i64 (fI (ps.getD ((IntKind.i64.wrap (t11 + t9)).tmod (↑ps.length : Int)).toNat []) 0), AV.i IntKind.i64 (fI (ps.getD ((IntKind.i64.wrap (t11 + t9)).tmod (↑ps.length : Int)).toNat []) 1), AV.i IntKind.i64 (fI (ps.getD ((IntKind.i64.wrap (t11 + t9)).tmod (↑ps.length : Int)).toNat []) 2), AV.i IntKind.i64 (fI (ps.getD ((IntKind.i64.wrap (t11 + t9)).tmod (↑ps.length : Int)).toNat []) 3)]].length).ble 9223372036854775807 && true) (cond (((t10.length + [[AV.i IntKind.i64 (fI (ps.getD ((IntKind.i64.wrap (t11 + t9)).tmod (↑ps.length : Int)).toNat []) 0), AV.i IntKind.i64 (fI (ps.getD ((IntKind.i64.wrap (t11 + t9)).tmod (↑ps.length : Int)).toNat []) 1), AV.i IntKind.i64 (fI (ps.getD ((IntKind.i64.wrap (t11 + t9)).tmod (↑ps.length : Int)).toNat []) 2), AV.i IntKind.i64 (fI (ps.getD ((IntKind.i64.wrap (t11 + t9)).tmod (↑ps.length : Int)).toNat []) 3)]].length) * 32).ble 140737488355328) (cond (t10.isEmpty && false) (.bad) (.go ⟨t10 ++ [[AV.i IntKind.i64 (fI (ps.getD ((IntKind.i64.wrap (t11 + t9)).tmod (↑ps.length : Int)).toNat []) 0), AV.i IntKind.i64 (fI (ps.getD ((IntKind.i64.wrap (t11 + t9)).tmod (↑ps.length : Int)).toNat []) 1), AV.i IntKind.i64 (fI (ps.getD ((IntKind.i64.wrap (t11 + t9)).tmod (↑ps.length : Int)).toNat []) 2), AV.i IntKind.i64 (fI (ps.getD ((IntKind.i64.wrap (t11 + t9)).tmod (↑ps.length : Int)).toNat []) 3)]], IntKind.i64.wrap (t11 - 1)⟩)) (.bad)) (.bad)) (.bad))) (.out (.x0 t10 t11))
noncomputable def o4a_0 (ps os hs : List (List AV)) (st tl th : Int) (ms : List (List AV)) (t6 : Bool) (t8 t9 : Int) (m20_0 m20_1 : List (List AV)) (m20_2 m20_3 m20_4 : Int) (m20_5 t10 : List (List AV)) (t11 : Int) : St :=
  { t := [(1, .rs 43 ps), (3, .rp [.sl 32, .sl 55, .int .i64, .int .i64, .int .i64, .sl 67] [.rs 32 os, .rs 55 hs, .i .i64 st, .i .i64 tl, .i .i64 th, .rs 67 ms] 0), (6, .b t6), (7, .p 20 0 0), (8, .i .i64 t8), (9, .i .i64 t9), (10, .gv 21 43 t10), (11, .i .i64 t11)], m := [(21, .fr 43), (0, .dead), (1, .dead), (2, .dead), (3, .dead), (4, .dead), (5, .dead), (6, .dead), (7, .dead), (8, .dead), (9, .dead), (10, .dead), (11, .dead), (12, .dead), (13, .dead), (14, .dead), (15, .dead), (16, .dead), (17, .dead), (18, .dead), (19, .dead), (20, .row 30 [[.rs 32 m20_0, .rs 55 m20_1, .i .i64 m20_2, .i .i64 m20_3, .i .i64 m20_4, .rs 67 m20_5]])], nx := 22, nt := 80 }
noncomputable def ou4a (ps os hs : List (List AV)) (st tl th : Int) (ms : List (List AV)) (t6 : Bool) (t8 t9 : Int) (m20_0 m20_1 : List (List AV)) (m20_2 m20_3 m20_4 : Int) (m20_5 : List (List AV)) : T4a → Ex × St
  | .x0 t10 t11 => (.ext 0, o4a_0 ps os hs st tl th ms t6 t8 t9 m20_0 m20_1 m20_2 m20_3 m20_4 m20_5 t10 t11)
noncomputable def r4a (ps os hs : List (List AV)) (st tl th : Int) (ms : List (List AV)) (t6 : Bool) (t8 t9 : Int) (m20_0 m20_1 : List (List AV)) (m20_2 m20_3 m20_4 : Int) (m20_5 t10 : List (List AV)) (t11 : Int) : Option T4a := run (fun x => stp4a ps os hs st tl th ms t6 t8 t9 m20_0 m20_1 m20_2 m20_3 m20_4 m20_5 x.t10 x.t11) (⟨t10, t11⟩ : S4a)
noncomputable def i4a_0 (ps os hs : List (List AV)) (st tl th : Int) (ms : List (List AV)) (t6 : Bool) (t8 t9 : Int) (m20_0 m20_1 : List (List AV)) (m20_2 m20_3 m20_4 : Int) (m20_5 t10 : List (List AV)) (t11 : Int) : Bool := match r4a ps os hs st tl th ms t6 t8 t9 m20_0 m20_1 m20_2 m20_3 m20_4 m20_5 t10 t11 with
  | some (.x0 _ _) => true
  | _ => false
noncomputable def v4a_0_t10 (ps os hs : List (List AV)) (st tl th : Int) (ms : List (List AV)) (t6 : Bool) (t8 t9 : Int) (m20_0 m20_1 : List (List AV)) (m20_2 m20_3 m20_4 : Int) (m20_5 t10 : List (List AV)) (t11 : Int) : List (List AV) := match r4a ps os hs st tl th ms t6 t8 t9 m20_0 m20_1 m20_2 m20_3 m20_4 m20_5 t10 t11 with
  | some (.x0 t10 _) => t10
  | _ => default
noncomputable def v4a_0_t11 (ps os hs : List (List AV)) (st tl th : Int) (ms : List (List AV)) (t6 : Bool) (t8 t9 : Int) (m20_0 m20_1 : List (List AV)) (m20_2 m20_3 m20_4 : Int) (m20_5 t10 : List (List AV)) (t11 : Int) : Int := match r4a ps os hs st tl th ms t6 t8 t9 m20_0 m20_1 m20_2 m20_3 m20_4 m20_5 t10 t11 with
  | some (.x0 _ t11) => t11
  | _ => default
noncomputable def q4a (ps os hs : List (List AV)) (st tl th : Int) (ms : List (List AV)) (t6 : Bool) (t8 t9 : Int) (t10 : List (List AV)) (t11 : Int) (m20_0 m20_1 : List (List AV)) (m20_2 m20_3 m20_4 : Int) (m20_5 : List (List AV)) : List (Bool × Ex × St) := [(i4a_0 ps os hs st tl th ms t6 t8 t9 m20_0 m20_1 m20_2 m20_3 m20_4 m20_5 t10 t11, .ext 0, o4a_0 ps os hs st tl th ms t6 t8 t9 m20_0 m20_1 m20_2 m20_3 m20_4 m20_5 (v4a_0_t10 ps os hs st tl th ms t6 t8 t9 m20_0 m20_1 m20_2 m20_3 m20_4 m20_5 t10 t11) (v4a_0_t11 ps os hs st tl th ms t6 t8 t9 m20_0 m20_1 m20_2 m20_3 m20_4 m20_5 t10 t11))]
noncomputable def l4a (st : St) : Option (List (Bool × Ex × St)) := qget [.rs 43, .rp [.sl 32, .sl 55, .int .i64, .int .i64, .int .i64, .sl 67] [.rs 32, .rs 55, .i .i64, .i .i64, .i .i64, .rs 67] 0, .b, .p 20 0 0, .i .i64, .i .i64, .gv 21 43, .i .i64] [(21, .fr 43), (0, .dead), (1, .dead), (2, .dead), (3, .dead), (4, .dead), (5, .dead), (6, .dead), (7, .dead), (8, .dead), (9, .dead), (10, .dead), (11, .dead), (12, .dead), (13, .dead), (14, .dead), (15, .dead), (16, .dead), (17, .dead), (18, .dead), (19, .dead), (20, .row 30 [.l [.rs 32, .rs 55, .i .i64, .i .i64, .i .i64, .rs 67]])] 22 80 (normW Try.prog [(1, none), (3, none), (6, none), (7, none), (8, none), (9, none), (10, some 43), (11, none)] 21 st) fun ls => q4a (lLL ls 0) (lLL ls 1) (lLL ls 2) (lI ls 3) (lI ls 4) (lI ls 5) (lLL ls 6) (lB ls 7) (lI ls 8) (lI ls 9) (lLL ls 10) (lI ls 11) (lLL ls 12) (lLL ls 13) (lI ls 14) (lI ls 15) (lI ls 16) (lLL ls 17)
noncomputable def L4 : LSpec := fun p st => match p with
  | [false, true, false, true, true, true, true, true] => l4a st
  | _ => none
theorem is4a_0 (ps os hs : List (List AV)) (st tl th : Int) (ms : List (List AV)) (t6 : Bool) (t8 t9 : Int) (m20_0 m20_1 : List (List AV)) (m20_2 m20_3 m20_4 : Int) (m20_5 t10 : List (List AV)) (t11 : Int) (h : i4a_0 ps os hs st tl th ms t6 t8 t9 m20_0 m20_1 m20_2 m20_3 m20_4 m20_5 t10 t11 = true) : r4a ps os hs st tl th ms t6 t8 t9 m20_0 m20_1 m20_2 m20_3 m20_4 m20_5 t10 t11 = some (.x0 (v4a_0_t10 ps os hs st tl th ms t6 t8 t9 m20_0 m20_1 m20_2 m20_3 m20_4 m20_5 t10 t11) (v4a_0_t11 ps os hs st tl th ms t6 t8 t9 m20_0 m20_1 m20_2 m20_3 m20_4 m20_5 t10 t11)) := by
  unfold i4a_0 at h
  unfold v4a_0_t10 v4a_0_t11
  generalize r4a ps os hs st tl th ms t6 t8 t9 m20_0 m20_1 m20_2 m20_3 m20_4 m20_5 t10 t11 = r at h ⊢
  rcases r with _ | y
  · cases h
  · cases y <;> first | rfl | cases h
variable [LO]
theorem round4a (ps os hs : List (List AV)) (st tl th : Int) (ms : List (List AV)) (t6 : Bool) (t8 t9 : Int) (t10 : List (List AV)) (t11 : Int) (m20_0 m20_1 : List (List AV)) (m20_2 m20_3 m20_4 : Int) (m20_5 : List (List AV)) : round Try.prog SO (ro 4) L4 lp4a [false, true, false, true, true, true, true, true] [(1, none), (3, none), (6, none), (7, none), (8, none), (9, none), (10, some 43), (11, none)] 21 (s4a ps os hs st tl th ms t6 t8 t9 t10 t11 m20_0 m20_1 m20_2 m20_3 m20_4 m20_5) =
    cond (decide (t11 ≥ 0)) (cond (decide ((↑ps.length : Int) = 0)) (none) (cond (inb ((IntKind.i64.wrap (t11 + t9)).tmod (↑ps.length : Int)) ps.length) (cond ((t10.length + [[AV.i IntKind.i64 (fI (ps.getD ((IntKind.i64.wrap (t11 + t9)).tmod (↑ps.length : Int)).toNat []) 0), AV.i IntKind.i64 (fI (ps.getD ((IntKind.i64.wrap (t11 + t9)).tmod (↑ps.length : Int)).toNat []) 1), AV.i IntKind.i64 (fI (ps.getD ((IntKind.i64.wrap (t11 + t9)).tmod (↑ps.length : Int)).toNat []) 2), AV.i IntKind.i64 (fI (ps.getD ((IntKind.i64.wrap (t11 + t9)).tmod (↑ps.length : Int)).toNat []) 3)]].length).ble 9223372036854775807 && true) (cond (((t10.length + [[AV.i IntKind.i64 (fI (ps.getD ((IntKind.i64.wrap (t11 + t9)).tmod (↑ps.length : Int)).toNat []) 0), AV.i IntKind.i64 (fI (ps.getD ((IntKind.i64.wrap (t11 + t9)).tmod (↑ps.length : Int)).toNat []) 1), AV.i IntKind.i64 (fI (ps.getD ((IntKind.i64.wrap (t11 + t9)).tmod (↑ps.length : Int)).toNat []) 2), AV.i IntKind.i64 (fI (ps.getD ((IntKind.i64.wrap (t11 + t9)).tmod (↑ps.length : Int)).toNat []) 3)]].length) * 32).ble 140737488355328) (cond (t10.isEmpty && false) (none) (some (.nrm, s4a ps os hs st tl th ms t6 t8 t9 (t10 ++ [[AV.i IntKind.i64 (fI (ps.getD ((IntKind.i64.wrap (t11 + t9)).tmod (↑ps.length : Int)).toNat []) 0), AV.i IntKind.i64 (fI (ps.getD ((IntKind.i64.wrap (t11 + t9)).tmod (↑ps.length : Int)).toNat []) 1), AV.i IntKind.i64 (fI (ps.getD ((IntKind.i64.wrap (t11 + t9)).tmod (↑ps.length : Int)).toNat []) 2), AV.i IntKind.i64 (fI (ps.getD ((IntKind.i64.wrap (t11 + t9)).tmod (↑ps.length : Int)).toNat []) 3)]]) (IntKind.i64.wrap (t11 - 1)) m20_0 m20_1 m20_2 m20_3 m20_4 m20_5))) (none)) (none)) (none))) (some (.ext 0, o4a_0 ps os hs st tl th ms t6 t8 t9 m20_0 m20_1 m20_2 m20_3 m20_4 m20_5 t10 t11)) := by kernel_rfl
theorem rnd4a (ps os hs : List (List AV)) (st tl th : Int) (ms : List (List AV)) (t6 : Bool) (t8 t9 : Int) (m20_0 m20_1 : List (List AV)) (m20_2 m20_3 m20_4 : Int) (m20_5 : List (List AV)) (x : S4a) : round Try.prog SO (ro 4) L4 lp4a [false, true, false, true, true, true, true, true] [(1, none), (3, none), (6, none), (7, none), (8, none), (9, none), (10, some 43), (11, none)] 21 ((fun x => s4a ps os hs st tl th ms t6 t8 t9 x.t10 x.t11 m20_0 m20_1 m20_2 m20_3 m20_4 m20_5) x) = toR (fun x => s4a ps os hs st tl th ms t6 t8 t9 x.t10 x.t11 m20_0 m20_1 m20_2 m20_3 m20_4 m20_5) (ou4a ps os hs st tl th ms t6 t8 t9 m20_0 m20_1 m20_2 m20_3 m20_4 m20_5) (stp4a ps os hs st tl th ms t6 t8 t9 m20_0 m20_1 m20_2 m20_3 m20_4 m20_5 x.t10 x.t11) := by
  refine (round4a _ _ _ _ _ _ _ _ _ _ _ _ _ _ _ _ _ _ ).trans ?_
  unfold stp4a
  simp only [toR_cond]
  rfl
theorem lokb4a (ps os hs : List (List AV)) (st tl th : Int) (ms : List (List AV)) (t6 : Bool) (t8 t9 : Int) (t10 : List (List AV)) (t11 : Int) (m20_0 m20_1 : List (List AV)) (m20_2 m20_3 m20_4 : Int) (m20_5 : List (List AV)) {e : Ex} {s : St} (hch : Chosen (q4a ps os hs st tl th ms t6 t8 t9 t10 t11 m20_0 m20_1 m20_2 m20_3 m20_4 m20_5) e s) : LB Try.prog SO (ro 4) L4 lp4a [false, true, false, true, true, true, true, true] [(1, none), (3, none), (6, none), (7, none), (8, none), (9, none), (10, some 43), (11, none)] 21 (s4a ps os hs st tl th ms t6 t8 t9 t10 t11 m20_0 m20_1 m20_2 m20_3 m20_4 m20_5) e s := by
  unfold q4a at hch
  have main := fun y h => LB_run (x := (⟨t10, t11⟩ : S4a)) (y := y) (nb := 21) (fun y => by cases y <;> simp [ou4a]) (rnd4a ps os hs st tl th ms t6 t8 t9 m20_0 m20_1 m20_2 m20_3 m20_4 m20_5) h
  obtain ⟨x, hx, hg, rfl, rfl⟩ := chosen_any hch
  simp only [List.mem_cons, List.not_mem_nil, or_false] at hx
  subst hx
  exact main _ (is4a_0 ps os hs st tl th ms t6 t8 t9 m20_0 m20_1 m20_2 m20_3 m20_4 m20_5 t10 t11 hg)
theorem lok4a {st : St} {outs : List (Bool × Ex × St)} {e : Ex} {s : St} (hl : l4a st = some outs) (hch : Chosen outs e s) :
    ∃ keep nb, 0 ≤ nb ∧ LB Try.prog SO (ro 4) L4 lp4a [false, true, false, true, true, true, true, true] keep nb st e s := by
  unfold l4a at hl
  obtain ⟨ls, hno, rfl⟩ := qget_some hl
  have hno := normW_norm hno
  refine ⟨_, _, ?_, .enterQ hno (s2 := s4a (lLL ls 0) (lLL ls 1) (lLL ls 2) (lI ls 3) (lI ls 4) (lI ls 5) (lLL ls 6) (lB ls 7) (lI ls 8) (lI ls 9) (lLL ls 10) (lI ls 11) (lLL ls 12) (lLL ls 13) (lI ls 14) (lI ls 15) (lI ls 16) (lLL ls 17)) (by kernel_rfl) (lokb4a _ _ _ _ _ _ _ _ _ _ _ _ _ _ _ _ _ _ hch)⟩
  decide
theorem L4_ok (q : Pl) (c : Code) (hq : locate c4 q.reverse = some (.loop c)) (st : St) (outs : List (Bool × Ex × St)) (e : Ex) (s : St) (hl : L4 q st = some outs) (hch : Chosen outs e s) :
    ∃ keep nb, 0 ≤ nb ∧ LB Try.prog SO (ro 4) L4 c q keep nb st e s := by
  unfold L4 at hl
  split at hl
  · have : locate c4 ([false, true, false, true, true, true, true, true] : Pl).reverse = some (.loop lp4a) := by kernel_rfl
    rw [this] at hq
    cases hq
    exact lok4a hl hch
  · cases hl
theorem lok4 : LOK Try.prog SO (ro 4) L4 0 false c4 [] :=
  lok_lo L4_ok c4 [] false (locate_nil _) (by kernel_rfl)
noncomputable def t4 (os hs : List (List AV)) (st tl th : Int) (ms ps : List (List AV)) (tn : Int) : Tr ((Bool)) :=
  .cn (LO.V.n.q.g7 os hs st tl th ms) (.cn (LO.V.n.q.w7 os hs st tl th ms) (.lf (true)) (.cn (decide ((↑ps.length : Int) > 20)) (.lf (true)) (.cn ((↑ps.length : Int) == 0) (.lf (true)) (.cn (LO.V.g12 os hs st tl th ms ps) (.cn (decide ((↑ps.length : Int) = 0)) (.nn) (.cn (i4a_0 ps os hs st tl th ms false (LO.V.p12 os hs st tl th ms ps).snd.snd.snd.snd.snd.snd ((IntKind.i64.wrap tn).tmod (↑ps.length : Int)) (LO.V.p12 os hs st tl th ms ps).fst (LO.V.p12 os hs st tl th ms ps).snd.fst (LO.V.p12 os hs st tl th ms ps).snd.snd.fst (LO.V.p12 os hs st tl th ms ps).snd.snd.snd.fst (LO.V.p12 os hs st tl th ms ps).snd.snd.snd.snd.fst (LO.V.p12 os hs st tl th ms ps).snd.snd.snd.snd.snd.fst [] (IntKind.i64.wrap ((↑ps.length : Int) - 1))) (.cn (LO.V.g12 os hs st tl th ms (v4a_0_t10 ps os hs st tl th ms false (LO.V.p12 os hs st tl th ms ps).snd.snd.snd.snd.snd.snd ((IntKind.i64.wrap tn).tmod (↑ps.length : Int)) (LO.V.p12 os hs st tl th ms ps).fst (LO.V.p12 os hs st tl th ms ps).snd.fst (LO.V.p12 os hs st tl th ms ps).snd.snd.fst (LO.V.p12 os hs st tl th ms ps).snd.snd.snd.fst (LO.V.p12 os hs st tl th ms ps).snd.snd.snd.snd.fst (LO.V.p12 os hs st tl th ms ps).snd.snd.snd.snd.snd.fst [] (IntKind.i64.wrap ((↑ps.length : Int) - 1)))) (.cn (((LO.V.p12 os hs st tl th ms ps).snd.snd.snd.snd.snd.snd == 0) == ((LO.V.p12 os hs st tl th ms (v4a_0_t10 ps os hs st tl th ms false (LO.V.p12 os hs st tl th ms ps).snd.snd.snd.snd.snd.snd ((IntKind.i64.wrap tn).tmod (↑ps.length : Int)) (LO.V.p12 os hs st tl th ms ps).fst (LO.V.p12 os hs st tl th ms ps).snd.fst (LO.V.p12 os hs st tl th ms ps).snd.snd.fst (LO.V.p12 os hs st tl th ms ps).snd.snd.snd.fst (LO.V.p12 os hs st tl th ms ps).snd.snd.snd.snd.fst (LO.V.p12 os hs st tl th ms ps).snd.snd.snd.snd.snd.fst [] (IntKind.i64.wrap ((↑ps.length : Int) - 1)))).snd.snd.snd.snd.snd.snd == 0)) (.cn ((LO.V.p12 os hs st tl th ms ps).snd.snd.snd.snd.snd.snd != 0) (.lf (true)) (.cn (LO.V.n.q.g11 (LO.V.p12 os hs st tl th ms ps).fst (LO.V.p12 os hs st tl th ms ps).snd.fst (LO.V.p12 os hs st tl th ms ps).snd.snd.fst (LO.V.p12 os hs st tl th ms ps).snd.snd.snd.fst (LO.V.p12 os hs st tl th ms ps).snd.snd.snd.snd.fst (LO.V.p12 os hs st tl th ms ps).snd.snd.snd.snd.snd.fst (LO.V.p12 os hs st tl th ms (v4a_0_t10 ps os hs st tl th ms false (LO.V.p12 os hs st tl th ms ps).snd.snd.snd.snd.snd.snd ((IntKind.i64.wrap tn).tmod (↑ps.length : Int)) (LO.V.p12 os hs st tl th ms ps).fst (LO.V.p12 os hs st tl th ms ps).snd.fst (LO.V.p12 os hs st tl th ms ps).snd.snd.fst (LO.V.p12 os hs st tl th ms ps).snd.snd.snd.fst (LO.V.p12 os hs st tl th ms ps).snd.snd.snd.snd.fst (LO.V.p12 os hs st tl th ms ps).snd.snd.snd.snd.snd.fst [] (IntKind.i64.wrap ((↑ps.length : Int) - 1)))).fst (LO.V.p12 os hs st tl th ms (v4a_0_t10 ps os hs st tl th ms false (LO.V.p12 os hs st tl th ms ps).snd.snd.snd.snd.snd.snd ((IntKind.i64.wrap tn).tmod (↑ps.length : Int)) (LO.V.p12 os hs st tl th ms ps).fst (LO.V.p12 os hs st tl th ms ps).snd.fst (LO.V.p12 os hs st tl th ms ps).snd.snd.fst (LO.V.p12 os hs st tl th ms ps).snd.snd.snd.fst (LO.V.p12 os hs st tl th ms ps).snd.snd.snd.snd.fst (LO.V.p12 os hs st tl th ms ps).snd.snd.snd.snd.snd.fst [] (IntKind.i64.wrap ((↑ps.length : Int) - 1)))).snd.fst (LO.V.p12 os hs st tl th ms (v4a_0_t10 ps os hs st tl th ms false (LO.V.p12 os hs st tl th ms ps).snd.snd.snd.snd.snd.snd ((IntKind.i64.wrap tn).tmod (↑ps.length : Int)) (LO.V.p12 os hs st tl th ms ps).fst (LO.V.p12 os hs st tl th ms ps).snd.fst (LO.V.p12 os hs st tl th ms ps).snd.snd.fst (LO.V.p12 os hs st tl th ms ps).snd.snd.snd.fst (LO.V.p12 os hs st tl th ms ps).snd.snd.snd.snd.fst (LO.V.p12 os hs st tl th ms ps).snd.snd.snd.snd.snd.fst [] (IntKind.i64.wrap ((↑ps.length : Int) - 1)))).snd.snd.fst (LO.V.p12 os hs st tl th ms (v4a_0_t10 ps os hs st tl th ms false (LO.V.p12 os hs st tl th ms ps).snd.snd.snd.snd.snd.snd ((IntKind.i64.wrap tn).tmod (↑ps.length : Int)) (LO.V.p12 os hs st tl th ms ps).fst (LO.V.p12 os hs st tl th ms ps).snd.fst (LO.V.p12 os hs st tl th ms ps).snd.snd.fst (LO.V.p12 os hs st tl th ms ps).snd.snd.snd.fst (LO.V.p12 os hs st tl th ms ps).snd.snd.snd.snd.fst (LO.V.p12 os hs st tl th ms ps).snd.snd.snd.snd.snd.fst [] (IntKind.i64.wrap ((↑ps.length : Int) - 1)))).snd.snd.snd.fst (LO.V.p12 os hs st tl th ms (v4a_0_t10 ps os hs st tl th ms false (LO.V.p12 os hs st tl th ms ps).snd.snd.snd.snd.snd.snd ((IntKind.i64.wrap tn).tmod (↑ps.length : Int)) (LO.V.p12 os hs st tl th ms ps).fst (LO.V.p12 os hs st tl th ms ps).snd.fst (LO.V.p12 os hs st tl th ms ps).snd.snd.fst (LO.V.p12 os hs st tl th ms ps).snd.snd.snd.fst (LO.V.p12 os hs st tl th ms ps).snd.snd.snd.snd.fst (LO.V.p12 os hs st tl th ms ps).snd.snd.snd.snd.snd.fst [] (IntKind.i64.wrap ((↑ps.length : Int) - 1)))).snd.snd.snd.snd.fst (LO.V.p12 os hs st tl th ms (v4a_0_t10 ps os hs st tl th ms false (LO.V.p12 os hs st tl th ms ps).snd.snd.snd.snd.snd.snd ((IntKind.i64.wrap tn).tmod (↑ps.length : Int)) (LO.V.p12 os hs st tl th ms ps).fst (LO.V.p12 os hs st tl th ms ps).snd.fst (LO.V.p12 os hs st tl th ms ps).snd.snd.fst (LO.V.p12 os hs st tl th ms ps).snd.snd.snd.fst (LO.V.p12 os hs st tl th ms ps).snd.snd.snd.snd.fst (LO.V.p12 os hs st tl th ms ps).snd.snd.snd.snd.snd.fst [] (IntKind.i64.wrap ((↑ps.length : Int) - 1)))).snd.snd.snd.snd.snd.fst) (.cn (LO.V.n.q.w11 (LO.V.p12 os hs st tl th ms ps).fst (LO.V.p12 os hs st tl th ms ps).snd.fst (LO.V.p12 os hs st tl th ms ps).snd.snd.fst (LO.V.p12 os hs st tl th ms ps).snd.snd.snd.fst (LO.V.p12 os hs st tl th ms ps).snd.snd.snd.snd.fst (LO.V.p12 os hs st tl th ms ps).snd.snd.snd.snd.snd.fst (LO.V.p12 os hs st tl th ms (v4a_0_t10 ps os hs st tl th ms false (LO.V.p12 os hs st tl th ms ps).snd.snd.snd.snd.snd.snd ((IntKind.i64.wrap tn).tmod (↑ps.length : Int)) (LO.V.p12 os hs st tl th ms ps).fst (LO.V.p12 os hs st tl th ms ps).snd.fst (LO.V.p12 os hs st tl th ms ps).snd.snd.fst (LO.V.p12 os hs st tl th ms ps).snd.snd.snd.fst (LO.V.p12 os hs st tl th ms ps).snd.snd.snd.snd.fst (LO.V.p12 os hs st tl th ms ps).snd.snd.snd.snd.snd.fst [] (IntKind.i64.wrap ((↑ps.length : Int) - 1)))).fst (LO.V.p12 os hs st tl th ms (v4a_0_t10 ps os hs st tl th ms false (LO.V.p12 os hs st tl th ms ps).snd.snd.snd.snd.snd.snd ((IntKind.i64.wrap tn).tmod (↑ps.length : Int)) (LO.V.p12 os hs st tl th ms ps).fst (LO.V.p12 os hs st tl th ms ps).snd.fst (LO.V.p12 os hs st tl th ms ps).snd.snd.fst (LO.V.p12 os hs st tl th ms ps).snd.snd.snd.fst (LO.V.p12 os hs st tl th ms ps).snd.snd.snd.snd.fst (LO.V.p12 os hs st tl th ms ps).snd.snd.snd.snd.snd.fst [] (IntKind.i64.wrap ((↑ps.length : Int) - 1)))).snd.fst (LO.V.p12 os hs st tl th ms (v4a_0_t10 ps os hs st tl th ms false (LO.V.p12 os hs st tl th ms ps).snd.snd.snd.snd.snd.snd ((IntKind.i64.wrap tn).tmod (↑ps.length : Int)) (LO.V.p12 os hs st tl th ms ps).fst (LO.V.p12 os hs st tl th ms ps).snd.fst (LO.V.p12 os hs st tl th ms ps).snd.snd.fst (LO.V.p12 os hs st tl th ms ps).snd.snd.snd.fst (LO.V.p12 os hs st tl th ms ps).snd.snd.snd.snd.fst (LO.V.p12 os hs st tl th ms ps).snd.snd.snd.snd.snd.fst [] (IntKind.i64.wrap ((↑ps.length : Int) - 1)))).snd.snd.fst (LO.V.p12 os hs st tl th ms (v4a_0_t10 ps os hs st tl th ms false (LO.V.p12 os hs st tl th ms ps).snd.snd.snd.snd.snd.snd ((IntKind.i64.wrap tn).tmod (↑ps.length : Int)) (LO.V.p12 os hs st tl th ms ps).fst (LO.V.p12 os hs st tl th ms ps).snd.fst (LO.V.p12 os hs st tl th ms ps).snd.snd.fst (LO.V.p12 os hs st tl th ms ps).snd.snd.snd.fst (LO.V.p12 os hs st tl th ms ps).snd.snd.snd.snd.fst (LO.V.p12 os hs st tl th ms ps).snd.snd.snd.snd.snd.fst [] (IntKind.i64.wrap ((↑ps.length : Int) - 1)))).snd.snd.snd.fst (LO.V.p12 os hs st tl th ms (v4a_0_t10 ps os hs st tl th ms false (LO.V.p12 os hs st tl th ms ps).snd.snd.snd.snd.snd.snd ((IntKind.i64.wrap tn).tmod (↑ps.length : Int)) (LO.V.p12 os hs st tl th ms ps).fst (LO.V.p12 os hs st tl th ms ps).snd.fst (LO.V.p12 os hs st tl th ms ps).snd.snd.fst (LO.V.p12 os hs st tl th ms ps).snd.snd.snd.fst (LO.V.p12 os hs st tl th ms ps).snd.snd.snd.snd.fst (LO.V.p12 os hs st tl th ms ps).snd.snd.snd.snd.snd.fst [] (IntKind.i64.wrap ((↑ps.length : Int) - 1)))).snd.snd.snd.snd.fst (LO.V.p12 os hs st tl th ms (v4a_0_t10 ps os hs st tl th ms false (LO.V.p12 os hs st tl th ms ps).snd.snd.snd.snd.snd.snd ((IntKind.i64.wrap tn).tmod (↑ps.length : Int)) (LO.V.p12 os hs st tl th ms ps).fst (LO.V.p12 os hs st tl th ms ps).snd.fst (LO.V.p12 os hs st tl th ms ps).snd.snd.fst (LO.V.p12 os hs st tl th ms ps).snd.snd.snd.fst (LO.V.p12 os hs st tl th ms ps).snd.snd.snd.snd.fst (LO.V.p12 os hs st tl th ms ps).snd.snd.snd.snd.snd.fst [] (IntKind.i64.wrap ((↑ps.length : Int) - 1)))).snd.snd.snd.snd.snd.fst) (.lf (true)) (.lf (false))) (.nn))) (.lf (false))) (.nn)) (.nn))) (.nn))))) (.nn)
noncomputable def g4 (os hs : List (List AV)) (st tl th : Int) (ms ps : List (List AV)) (tn : Int) : Bool := (t4 os hs st tl th ms ps tn).g
noncomputable def w4_0 (os hs : List (List AV)) (st tl th : Int) (ms ps : List (List AV)) (tn : Int) : Bool := (t4 os hs st tl th ms ps tn).val
theorem eq4 (os hs : List (List AV)) (st tl th : Int) (ms ps : List (List AV)) (tn : Int) : evF Try.prog SO (ro 4) L4 Try.f4 [.agg [.rs 32 os, .rs 55 hs, .i .i64 st, .i .i64 tl, .i .i64 th, .rs 67 ms], .rs 43 ps, .i .u8 tn] = (t4 os hs st tl th ms ps tn).opt (fun (x : (Bool)) => (.b x : AV)) := by kernel_rfl
theorem con4 (os hs : List (List AV)) (st tl th : Int) (ms ps : List (List AV)) (tn : Int) (h : g4 os hs st tl th ms ps tn = true) : Con Try.prog 4 [.agg [.rs 32 os, .rs 55 hs, .i .i64 st, .i .i64 tl, .i .i64 th, .rs 67 ms], .rs 43 ps, .i .u8 tn] [] (.b (w4_0 os hs st tl th ms ps tn)) [] :=
  con_of SO_ok mixed Try.func4 (c := c4) rfl (names 4 _ Try.func4) lok4 ((eq4 os hs st tl th ms ps tn).trans (Tr.sound _ _ h))
noncomputable def e4 (args : List AV) (rows : List Blk) : Option (Bool × AV × List Blk) := match args, rows with
  | [.agg [.rs 32 os, .rs 55 hs, .i .i64 st, .i .i64 tl, .i .i64 th, .rs 67 ms], .rs 43 ps, .i .u8 tn], [] => some (g4 os hs st tl th ms ps tn, .b (w4_0 os hs st tl th ms ps tn), [])
  | _, _ => none
-- SPEC 4
end Go.Proofs.Ytoglnllbopcejaa

set_option maxRecDepth 100000
set_option linter.unusedVariables false
namespace Go.Proofs.Ytoglnllbopcejaa
open Go Go.Ev
def prR (x : Mk) : Mk := pr x.u x.v x.lo x.hi
def insA (P L : List Mk) : List Mk := P.foldl (fun L x => insM (prR x) L) L
def prb (os hs : List (List AV)) (st tl th : Int) (L : List Mk) (x : Mk) : SkT := probeX os hs st tl th L x.u x.v x.lo x.hi
def allX (os hs : List (List AV)) (st tl th : Int) : List Mk → List Mk → SkT
  | [], L => (os, hs, st, tl, th, L.map en, 0)
  | x :: r, L => cond ((prb os hs st tl th L x).2.2.2.2.2.2 != 0) (noSk (prb os hs st tl th L x).2.2.2.2.2.2) (allX os hs st tl th r (insM (prR x) L))
theorem allX_cons (os hs : List (List AV)) (st tl th : Int) (x : Mk) (r L : List Mk) : allX os hs st tl th (x :: r) L = cond ((prb os hs st tl th L x).2.2.2.2.2.2 != 0) (noSk (prb os hs st tl th L x).2.2.2.2.2.2) (allX os hs st tl th r (insM (prR x) L)) := rfl
theorem k12 (os hs : List (List AV)) (st tl th : Int) (L P : List Mk) (ho : okS os = true) (hP : P.length ≤ 20) : g12 os hs st tl th (L.map en) (P.map en) = true ∧ (t12 os hs st tl th (L.map en) (P.map en)).val = allX os hs st tl th P L := by
  have hlm : (P.map en).length = P.length := List.length_map _
  obtain ⟨y, hy, hQ⟩ := run_cnt (step := fun x => stp12a (P.map en) 0 [] [] 0 0 0 [] x.t6 x.os x.hs x.st x.tl x.th x.ms) P.length
    (fun i x => ∃ M, x = ⟨(i : Int), os, hs, st, tl, th, M.map en⟩ ∧ allX os hs st tl th (P.drop i) M = allX os hs st tl th P L)
    (fun y => match y with
      | .x0 e _ _ _ _ _ _ _ a b c d f g => allX os hs st tl th P L = (a, b, c, d, f, g, e)
      | .x1 _ a b c d f g => allX os hs st tl th P L = (a, b, c, d, f, g, 0))
    (fun i x hi hx => by
      obtain ⟨M, rfl, h1⟩ := hx
      rw [gm_drop hi] at h1
      have e9 : g9 V0 os hs st tl th (M.map en) (gm P i).u (gm P i).v (gm P i).lo (gm P i).hi = true := (k9 os hs st tl th M _ _ _ _ ho).1
      have e9' : LC.V.q.g9 os hs st tl th (M.map en) (fI (en (gm P i)) 0) (fI (en (gm P i)) 1) (fI (en (gm P i)) 2) (fI (en (gm P i)) 3) = true := e9
      have p9 : LC.V.q.p9 os hs st tl th (M.map en) (fI (en (gm P i)) 0) (fI (en (gm P i)) 1) (fI (en (gm P i)) 2) (fI (en (gm P i)) 3) = prb os hs st tl th M (gm P i) := (k9 os hs st tl th M _ _ _ _ ho).2
      unfold stp12a
      simp only [lt_true (show i < (P.map en).length by omega), inb_true (show i < (P.map en).length by omega), Int.toNat_natCast, map_getD hi, cond_true, e9', p9, wrap_succ (show i < 9223372036854775807 by omega)]
      rw [allX_cons] at h1
      rcases probeX_cases os hs st tl th M (gm P i).u (gm P i).v (gm P i).lo (gm P i).hi with ⟨e, he, hx⟩ | ⟨hx, _⟩
      · have hx : prb os hs st tl th M (gm P i) = noSk e := hx
        rw [hx] at h1 ⊢
        have hb : ((noSk e).2.2.2.2.2.2 != 0) = true := by simpa [noSk] using he
        rw [hb] at h1 ⊢
        exact h1.symm
      · have hx : prb os hs st tl th M (gm P i) = (os, hs, st, tl, th, (insM (prR (gm P i)) M).map en, 0) := hx
        rw [hx] at h1 ⊢
        exact ⟨insM (prR (gm P i)) M, rfl, h1⟩)
    (fun x hx => by
      obtain ⟨M, rfl, h1⟩ := hx
      unfold stp12a
      simp only [show decide ((P.length : Int) < ((P.map en).length : Int)) = false from decide_eq_false (by omega), cond_false]
      rw [List.drop_length] at h1
      exact h1.symm)
    ⟨0, os, hs, st, tl, th, L.map en⟩ ⟨L, rfl, rfl⟩
  have hy : r12a (P.map en) 0 [] [] 0 0 0 [] 0 os hs st tl th (L.map en) = some y := hy
  refine TrP.ok (t := t12 os hs st tl th (L.map en) (P.map en)) (p := fun x => x = allX os hs st tl th P L) ?_
  unfold t12 i12a_0 i12a_1 v12a_0_m1_0' v12a_0_m1_1' v12a_0_m1_2' v12a_0_m1_3' v12a_0_m1_4' v12a_0_m1_5' v12a_0_t5' v12a_1_m0_0 v12a_1_m0_1 v12a_1_m0_2 v12a_1_m0_3 v12a_1_m0_4 v12a_1_m0_5
  rw [hy]
  cases y with
  | x0 => exact .t rfl hQ.symm
  | x1 => exact .f rfl (.t rfl hQ.symm)
theorem insA_len : ∀ {P L : List Mk}, L.length ≤ (insA P L).length
  | [], _ => Nat.le_refl _
  | x :: r, L => Nat.le_trans (ins_len (p := prR x)).1 (insA_len (P := r))
theorem insA_keeps : ∀ {P L : List Mk} {x : Mk}, x ∈ L → ∃ m, m ∈ insA P L ∧ atP m x ∧ x.lo ≤ m.lo ∧ m.hi ≤ x.hi
  | [], _, x, h => ⟨x, h, ⟨rfl, rfl⟩, Int.le_refl _, Int.le_refl _⟩
  | y :: r, L, x, h => by
    obtain ⟨m, h1, h2, h3, h4⟩ := ins_keeps (p := prR y) h
    obtain ⟨k, q1, q2, q3, q4⟩ := insA_keeps (P := r) h1
    exact ⟨k, q1, by unfold atP at *; omega, by omega, by omega⟩
theorem insA_perm {P Q : List Mk} (h : P.Perm Q) : ∀ {L : List Mk}, Sorted L → insA P L = insA Q L := by
  induction h with
  | nil => intro L _; rfl
  | cons x _ ih => intro L hL; exact ih (insM_sorted hL)
  | swap x y l =>
    intro L hL
    show insA l (insM (prR x) (insM (prR y) L)) = insA l (insM (prR y) (insM (prR x) L))
    rw [ins_comm hL]
  | trans _ _ ih1 ih2 => intro L hL; rw [ih1 hL, ih2 hL]
section
variable {os hs : List (List AV)} {st tl th : Int}
theorem fine_back {M L : List Mk} (hG : Fine os hs st tl th M) (hS : Sorted L) (hl : L.length ≤ M.length) (hk : ∀ x, x ∈ L → ∃ m, m ∈ M ∧ atP m x ∧ x.lo ≤ m.lo ∧ m.hi ≤ x.hi)
    (hm : ∀ x, x ∈ L → hasB os hs x.u x.v = true ∧ 0 ≤ x.lo ∧ x.hi ≤ 2000) : Fine os hs st tl th L := by
  refine ⟨hG.out, hG.six, hG.holes, hG.ste, hG.sp, Nat.le_trans hl hG.len, fun x hx => ?_, hS, fun x hx => ?_⟩
  · obtain ⟨h1, h2, h3⟩ := hm x hx
    obtain ⟨m, q1, q2, q3, q4⟩ := hk x hx
    have := (hG.marks m q1).2.2.1
    exact ⟨h1, h2, by omega, h3⟩
  · obtain ⟨m, q1, q2, q3, q4⟩ := hk x hx
    obtain ⟨a1, a2, a3⟩ := hG.agree m q1
    refine ⟨by omega, by omega, fun y hy => ?_⟩
    obtain ⟨k, w1, w2, w3, w4⟩ := hk y hy
    have := a3 k w1
    rw [q2.1, q2.2, w2.1, w2.2] at this
    omega
def okR (os hs : List (List AV)) (x : Mk) : Prop := hasB os hs x.u x.v = true ∧ (0 ≤ x.lo ∧ x.lo ≤ 2000) ∧ (0 ≤ x.hi ∧ x.hi ≤ 2000)
theorem fine_ins {L P : List Mk} {x : Mk} (hF : Fine os hs st tl th L) (hx : okR os hs x) (hG : Fine os hs st tl th (insA P (insM (prR x) L))) : Fine os hs st tl th (insM (prR x) L) := by
  refine fine_back hG (insM_sorted hF.srt) insA_len (fun x hx => insA_keeps hx) fun y hy => ?_
  rcases mem_insM hy with rfl | hy | ⟨m, h1, h2, rfl⟩
  · exact ⟨hx.1, by show 0 ≤ max (x.lo - x.hi) 0; omega, by show min (x.lo + x.hi) 2000 ≤ 2000; omega⟩
  · have := hF.marks y hy
    exact ⟨this.1, this.2.1, this.2.2.2⟩
  · have := hF.marks m h1
    exact ⟨this.1, by show 0 ≤ max m.lo _; omega, by show min m.hi _ ≤ 2000; omega⟩
theorem allX_good : ∀ {P L : List Mk}, Fine os hs st tl th L → (∀ x, x ∈ P → okR os hs x) → Fine os hs st tl th (insA P L) → allX os hs st tl th P L = (os, hs, st, tl, th, (insA P L).map en, 0)
  | [], _, _, _, _ => rfl
  | x :: r, L, hF, hx, hG => by
    have h0 := hx x (by simp)
    have h1 := fine_ins hF h0 hG
    unfold allX
    rw [show prb os hs st tl th L x = (os, hs, st, tl, th, (insM (prR x) L).map en, 0) from probeX_fine hF h0.1 h0.2.1 h0.2.2 h1]
    exact allX_good (P := r) h1 (fun y hy => hx y (by simp [hy])) hG
theorem allX_ok : ∀ {P L : List Mk}, (allX os hs st tl th P L).2.2.2.2.2.2 = 0 → P ≠ [] → Fine os hs st tl th L ∧ (∀ x, x ∈ P → okR os hs x) ∧ Fine os hs st tl th (insA P L)
  | [], _, _, h => absurd rfl h
  | x :: r, L, h, _ => by
    unfold allX at h
    rcases probeX_cases os hs st tl th L x.u x.v x.lo x.hi with ⟨e, he, hx⟩ | ⟨hx, hF, h1, h2, h3, hG⟩
    · rw [show prb os hs st tl th L x = noSk e from hx] at h
      have hb : ((noSk e).2.2.2.2.2.2 != 0) = true := by simpa [noSk] using he
      rw [hb] at h
      exact absurd h he
    · rw [show prb os hs st tl th L x = (os, hs, st, tl, th, (insM (prR x) L).map en, 0) from hx] at h
      cases r with
      | nil => exact ⟨hF, fun y hy => by obtain rfl := List.mem_singleton.1 hy; exact ⟨h1, h2, h3⟩, hG⟩
      | cons z s =>
        obtain ⟨_, q2, q3⟩ := allX_ok (P := z :: s) h (by simp)
        refine ⟨hF, fun y hy => ?_, q3⟩
        rcases List.mem_cons.1 hy with rfl | hy
        · exact ⟨h1, h2, h3⟩
        · exact q2 y hy
theorem allX_perm {P Q L : List Mk} (h : P.Perm Q) (hn : P ≠ []) : ((allX os hs st tl th P L).2.2.2.2.2.2 = 0 → allX os hs st tl th Q L = allX os hs st tl th P L) ∧ ((allX os hs st tl th Q L).2.2.2.2.2.2 = 0 → (allX os hs st tl th P L).2.2.2.2.2.2 = 0) := by
  constructor
  · intro h0
    obtain ⟨h1, h2, h3⟩ := allX_ok h0 hn
    have e := insA_perm h h1.srt
    rw [allX_good h1 h2 h3, allX_good h1 (fun x hx => h2 x (h.mem_iff.2 hx)) (e ▸ h3), e]
  · intro h0
    have hn' : Q ≠ [] := fun e => hn (by rw [e] at h; exact List.Perm.eq_nil h)
    obtain ⟨h1, h2, h3⟩ := allX_ok h0 hn'
    have e := insA_perm h h1.srt
    rw [allX_good h1 (fun x hx => h2 x (h.mem_iff.1 hx)) (e ▸ h3)]
end
end Go.Proofs.Ytoglnllbopcejaa

set_option maxRecDepth 100000
set_option linter.unusedVariables false
namespace Go.Proofs.Ytoglnllbopcejaa
open Go Go.Ev
noncomputable instance lo0 : LO := ⟨O0, rfl⟩
def turned (P : List Mk) (k j : Nat) : List Mk := (List.range j).map fun c => gm P ((P.length - 1 - c + k) % P.length)
theorem turned_succ (P : List Mk) (k j : Nat) : turned P k (j + 1) = turned P k j ++ [gm P ((P.length - 1 - j + k) % P.length)] := by
  unfold turned
  rw [List.range_succ, List.map_append]
  rfl
theorem turned_perm (P : List Mk) (k : Nat) (hk : k < P.length) : P.Perm (turned P k P.length) := by
  have h1 : (turned P k P.length).reverse = (List.range P.length).map fun c => gm P ((c + k) % P.length) := by
    apply List.ext_getElem
    · simp [turned]
    · intro i hi1 hi2
      have hi : i < P.length := by simpa using hi2
      simp only [turned, List.getElem_reverse, List.getElem_map, List.getElem_range, List.length_map, List.length_range]
      congr 2
      omega
  have h2 : ((List.range P.length).map fun c => gm P ((c + k) % P.length)) = P.drop k ++ P.take k := by
    apply List.ext_getElem
    · simp; omega
    · intro i hi1 hi2
      have hi : i < P.length := by simpa using hi1
      simp only [List.getElem_map, List.getElem_range]
      by_cases hc : i < P.length - k
      · rw [List.getElem_append_left (by simp; omega), List.getElem_drop, Nat.mod_eq_of_lt (by omega)]
        simp [gm, List.getD_eq_getElem?_getD, Nat.add_comm i k, show k + i < P.length by omega]
      · rw [List.getElem_append_right (by simp; omega), List.getElem_take, show (i + k) % P.length = i + k - P.length by rw [Nat.mod_eq_sub_mod (by omega), Nat.mod_eq_of_lt (by omega)]]
        simp [gm, List.getD_eq_getElem?_getD, show i + k - P.length < P.length by omega]
        congr 1
        omega
  have h3 : P.Perm (P.drop k ++ P.take k) := by
    have : (P.take k ++ P.drop k).Perm (P.drop k ++ P.take k) := List.perm_append_comm
    rwa [List.take_append_drop] at this
  rw [← h2, ← h1] at h3
  exact h3.trans (List.reverse_perm _)
theorem r4_eq (os hs : List (List AV)) (st tl th : Int) (ms : List (List AV)) (P : List Mk) (hP : P.length ≤ 20) (h0 : 0 < P.length) (k : Nat) (hk : k < P.length) (e : Int) (a b : List (List AV)) (c d f : Int) (g : List (List AV)) :
    r4a (P.map en) os hs st tl th ms false e (k : Int) a b c d f g [] (IntKind.i64.wrap (((P.map en).length : Int) - 1)) = some (.x0 ((turned P k P.length).map en) (-1)) := by
  have hlm : (P.map en).length = P.length := List.length_map _
  have := run_from0 (step := fun x => stp4a (P.map en) os hs st tl th ms false e (k : Int) a b c d f g x.t10 x.t11) (y := .x0 ((turned P k P.length).map en) (-1)) (m := P.length)
    (fun j => (⟨(turned P k j).map en, (P.length : Int) - 1 - (j : Int)⟩ : S4a)) (fun j hj => ?_) ?_
  · unfold r4a
    rw [← this, hlm, wrap64 (by omega) (by omega)]
    simp [turned]
  · have hm := Nat.mod_lt (P.length - 1 - j + k) h0
    have hw : (IntKind.i64.wrap ((P.length : Int) - 1 - (j : Int) + (k : Int))).tmod (P.length : Int) = (((P.length - 1 - j + k) % P.length : Nat) : Int) := by
      rw [wrap64 (by omega) (by omega), show ((P.length : Int) - 1 - (j : Int) + (k : Int)) = ((P.length - 1 - j + k : Nat) : Int) by omega, ← Int.ofNat_tmod]
    have hlt : (turned P k j).length ≤ 100 := by simp [turned]; omega
    have hs : turned P k (j + 1) = turned P k j ++ [gm P ((P.length - 1 - j + k) % P.length)] := turned_succ P k j
    unfold stp4a
    rw [hlm]
    simp only [hw, Int.toNat_natCast, map_getD hm, en_eta, inb_true hm, show decide ((P.length : Int) - 1 - (j : Int) ≥ 0) = true from decide_eq_true (by omega), ne0 h0, cond_true, cond_false, ok1 hlt, ok2 hlt, Bool.and_false, hs, ← map_snoc]
    rw [wrap64 (by omega) (by omega), show ((P.length : Int) - 1 - (j : Int) - 1) = (P.length : Int) - 1 - ((j + 1 : Nat) : Int) by omega]
  · unfold stp4a
    simp only [show decide ((P.length : Int) - 1 - (P.length : Int) ≥ 0) = false from decide_eq_false (by omega), cond_false]
    rw [show (P.length : Int) - 1 - (P.length : Int) = -1 by omega]
theorem allX_len (os hs : List (List AV)) (st tl th : Int) (ho : os.length ≤ 30) (hh : hs.length ≤ 30) : ∀ (P L : List Mk), L.length ≤ 60 →
    (allX os hs st tl th P L).1.length ≤ 30 ∧ (allX os hs st tl th P L).2.1.length ≤ 30 ∧ (allX os hs st tl th P L).2.2.2.2.2.1.length ≤ 60
  | [], L, h => ⟨ho, hh, by show (L.map en).length ≤ 60; rw [List.length_map]; exact h⟩
  | x :: r, L, h => by
    rw [allX_cons]
    rcases probeX_cases os hs st tl th L x.u x.v x.lo x.hi with ⟨e, he, hx⟩ | ⟨hx, hF, h1, h2, h3, hG⟩
    · rw [show prb os hs st tl th L x = noSk e from hx, show ((noSk e).2.2.2.2.2.2 != 0) = true by simpa [noSk] using he]
      exact ⟨by simp [noSk], by simp [noSk], by simp [noSk]⟩
    · rw [show prb os hs st tl th L x = (os, hs, st, tl, th, (insM (prR x) L).map en, 0) from hx]
      exact allX_len os hs st tl th ho hh r _ (by have := hG.len; show (insM (pr x.u x.v x.lo x.hi) L).length ≤ 60; omega)
theorem order_val (os hs : List (List AV)) (st tl th : Int) (L P : List Mk) (tn : Int) (hp : plainS os) (htn : 0 ≤ tn ∧ tn ≤ 255) : g4 os hs st tl th (L.map en) (P.map en) tn = true ∧ w4_0 os hs st tl th (L.map en) (P.map en) tn = true := by
  have hlm : (P.map en).length = P.length := List.length_map _
  refine TrP.ok (t := t4 os hs st tl th (L.map en) (P.map en) tn) (p := fun x => x = true) ?_
  unfold t4
  refine .t (k7 os hs st tl th _).1 ?_
  show TrP _ (.cn (w7_0 os hs st tl th (L.map en)) _ _)
  rw [(k7 os hs st tl th _).2]
  cases hg : greatB os hs (L.map en)
  · obtain ⟨l1, l2, l3⟩ := great_len hg
    rw [List.length_map] at l3
    have ho := okS_of hp l1
    refine .f rfl (.cn (fun _ => rfl) (fun h20 => ?_))
    have h20 : P.length ≤ 20 := by have := of_decide_eq_false h20; omega
    refine .cn (fun _ => rfl) (fun h0 => ?_)
    have h0 : 0 < P.length := by
      have : ((P.map en).length : Int) ≠ 0 := by simpa using h0
      omega
    have hk : tn.toNat % P.length < P.length := Nat.mod_lt _ h0
    have ht : (IntKind.i64.wrap tn).tmod (((P.map en).length : Nat) : Int) = ((tn.toNat % P.length : Nat) : Int) := by
      rw [hlm, wrap64 (by omega) (by omega)]
      conv => lhs; rw [show tn = ((tn.toNat : Nat) : Int) by omega]
      rw [← Int.ofNat_tmod]
    have e12 : ∀ Q : List Mk, Q.length ≤ 20 → LO.V.p12 os hs st tl th (L.map en) (Q.map en) = allX os hs st tl th Q L := fun Q hQ => (k12 os hs st tl th L Q ho hQ).2
    have hT : (turned P (tn.toNat % P.length) P.length).length ≤ 20 := by simp [turned]; omega
    refine .t (k12 os hs st tl th L P ho h20).1 (.f (by rw [hlm]; exact ne0 h0) ?_)
    unfold i4a_0 v4a_0_t10
    rw [ht, e12 P h20]
    simp only [r4_eq os hs st tl th (L.map en) P h20 h0 (tn.toNat % P.length) hk]
    refine .t rfl (.t (k12 os hs st tl th L _ ho hT).1 ?_)
    rw [e12 _ hT]
    have hn : P ≠ [] := fun e => by rw [e] at h0; simp at h0
    obtain ⟨q1, q2⟩ := allX_perm (os := os) (hs := hs) (st := st) (tl := tl) (th := th) (L := L) (turned_perm P _ hk) hn
    obtain ⟨n1, n2, n3⟩ := allX_len os hs st tl th l1 l2 P L l3
    by_cases he : (allX os hs st tl th P L).2.2.2.2.2.2 = 0
    · rw [q1 he]
      generalize allX os hs st tl th P L = x at n1 n2 n3 he ⊢
      have hs := k11_self x.1 x.2.1 x.2.2.1 x.2.2.2.1 x.2.2.2.2.1 x.2.2.2.2.2.1 (by omega) (by omega) (by omega)
      exact .t (by simp) (.f (by simpa using he) (.t hs.1 (.t hs.2 rfl)))
    · have he2 : (allX os hs st tl th (turned P (tn.toNat % P.length) P.length) L).2.2.2.2.2.2 ≠ 0 := fun h => he (q2 h)
      refine .t ?_ (.t (by simpa using he) rfl)
      rw [show ((allX os hs st tl th P L).2.2.2.2.2.2 == 0) = false by simpa using he, show ((allX os hs st tl th (turned P (tn.toNat % P.length) P.length) L).2.2.2.2.2.2 == 0) = false by simpa using he2]
      rfl
  · exact .t rfl rfl
theorem u8_of {a : AV} (h : TyArg Try.prog 5 a) : ∃ x, a = .i .u8 x ∧ 0 ≤ x ∧ x ≤ 255 := by
  obtain ⟨n, e, n1, n2⟩ := WT_int (ty_one (c := .int .u8) (by kernel_rfl) (by kernel_rfl) h)
  exact ⟨n, e, n1, n2⟩
theorem marks_of {e : TypeId} {es : List (List AV)} (hc : cts Try.prog e = [.int .i64, .int .i64, .int .i64, .int .i64]) (m2 : ∀ x, x ∈ es → x.length = (cts Try.prog e).length) (m3 : ∀ x, x ∈ es → ∀ j, j < x.length → WT Try.prog ((cts Try.prog e).getD j .oth) (x.getD j .u)) :
    (es.map fun e => (⟨fI e 0, fI e 1, fI e 2, fI e 3⟩ : Mk)).map en = es ∧ ∀ x, x ∈ (es.map fun e => (⟨fI e 0, fI e 1, fI e 2, fI e 3⟩ : Mk)) → (IntKind.i64.min ≤ x.lo ∧ x.lo ≤ IntKind.i64.max) ∧ (IntKind.i64.min ≤ x.hi ∧ x.hi ≤ IntKind.i64.max) := by
  have key : ∀ x, x ∈ es → en ⟨fI x 0, fI x 1, fI x 2, fI x 3⟩ = x ∧ (IntKind.i64.min ≤ fI x 2 ∧ fI x 2 ≤ IntKind.i64.max) ∧ (IntKind.i64.min ≤ fI x 3 ∧ fI x 3 ≤ IntKind.i64.max) := fun x hx => by
    have hl := m2 x hx
    have hc' := m3 x hx
    rw [hc] at hl hc'
    match x, hl with
    | [a, b, c, d], _ =>
      obtain ⟨x0, rfl, _⟩ := WT_int (show WT Try.prog (.int .i64) a from hc' 0 (by simp))
      obtain ⟨x1, rfl, _⟩ := WT_int (show WT Try.prog (.int .i64) b from hc' 1 (by simp))
      obtain ⟨x2, rfl, r2⟩ := WT_int (show WT Try.prog (.int .i64) c from hc' 2 (by simp))
      obtain ⟨x3, rfl, r3⟩ := WT_int (show WT Try.prog (.int .i64) d from hc' 3 (by simp))
      exact ⟨rfl, r2, r3⟩
  constructor
  · rw [List.map_map]
    conv => rhs; rw [← List.map_id es]
    exact List.map_congr_left fun x hx => (key x hx).1
  · intro y hy
    obtain ⟨x, hx, rfl⟩ := List.mem_map.1 hy
    exact (key x hx).2
theorem readings_of {a : AV} (h : TyArg Try.prog 40 a) : ∃ P : List Mk, a = .rs 43 (P.map en) ∧ ∀ x, x ∈ P → (IntKind.i64.min ≤ x.lo ∧ x.lo ≤ IntKind.i64.max) ∧ (IntKind.i64.min ≤ x.hi ∧ x.hi ≤ IntKind.i64.max) := by
  obtain ⟨es, rfl, m1, m2, m3⟩ := WT_sl (ty_one (c := .sl 43) (by kernel_rfl) (by kernel_rfl) h)
  obtain ⟨h1, h2⟩ := marks_of (by kernel_rfl) m2 m3
  exact ⟨_, by rw [h1], h2⟩
theorem wearOrder_law (avs : List AV) (h : TyArgs Try.prog Try.f4.params.toList avs) : Con Try.prog 4 avs [] (.b true) [] := by
  obtain ⟨a0, r0, rfl, h0, h⟩ := tyArgs_cons h
  obtain ⟨a1, r1, rfl, h1, h⟩ := tyArgs_cons h
  obtain ⟨a2, r2, rfl, h2, h⟩ := tyArgs_cons h
  obtain rfl := tyArgs_nil h
  obtain ⟨os, hs, st, tl, th, L, rfl, hp⟩ := skin_of h0
  obtain ⟨P, rfl, _⟩ := readings_of h1
  obtain ⟨tn, rfl, ht⟩ := u8_of h2
  obtain ⟨q1, q2⟩ := order_val os hs st tl th L P tn hp ht
  have := con4 os hs st tl th (L.map en) (P.map en) tn q1
  rw [q2] at this
  exact this
end Go.Proofs.Ytoglnllbopcejaa
