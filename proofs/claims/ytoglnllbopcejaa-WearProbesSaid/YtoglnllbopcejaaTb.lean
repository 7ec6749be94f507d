/-
  For every skin, point, reading and error, what wear.Probe returns is what the specification's Probe returns; the law's other guards are those of the given statement.
-/
import Derived.Test.YtoglnllbopcejaaTa
import Derived.Test.YtoglnllbopcejaaPd
import Derived.Test.YtoglnllbopcejaaPe
import Derived.Test.YtoglnllbopcejaaPf
import Derived.Test.YtoglnllbopcejaaPc
set_option linter.unusedVariables false
set_option maxRecDepth 100000
set_option linter.unusedVariables false
namespace Go.Proofs.Ytoglnllbopcejaa
open Go Go.Ev
theorem WT_int {a : AV} {k : IntKind} (h : WT Try.prog (.int k) a) : ∃ n, a = .i k n ∧ k.min ≤ n ∧ n ≤ k.max := by
  cases h with
  | int h1 h2 => exact ⟨_, rfl, h1, h2⟩
theorem WT_sl {a : AV} {e : TypeId} (h : WT Try.prog (.sl e) a) : ∃ es, a = .rs e es ∧ es.length ≤ 9223372036854775807 ∧ (∀ x, x ∈ es → x.length = (cts Try.prog e).length) ∧ (∀ x, x ∈ es → ∀ j, j < x.length → WT Try.prog ((cts Try.prog e).getD j .oth) (x.getD j .u)) := by
  cases h with
  | sl h1 h2 h3 => exact ⟨_, rfl, h1, h2, h3⟩
theorem ty_agg {a : AV} {t : TypeId} {c : List CT} (hA : Ev.isAgg Try.prog t = true) (hc : cts Try.prog t = c) (h : TyArg Try.prog t a) : ∃ bs, a = .agg bs ∧ WTs Try.prog c bs := by
  rcases h with ⟨_, as1, rfl, h⟩ | ⟨h, _⟩
  · exact ⟨as1, rfl, hc ▸ h⟩
  · rw [hA] at h; cases h
theorem ty_one {a : AV} {t : TypeId} {c : CT} (hA : Ev.isAgg Try.prog t = false) (hc : (cts Try.prog t).headD .oth = c) (h : TyArg Try.prog t a) : WT Try.prog c a := by
  rcases h with ⟨h, _⟩ | ⟨_, h⟩
  · rw [hA] at h; cases h
  · exact hc ▸ h
theorem WTs_cons {c : CT} {cs : List CT} {bs : List AV} (h : WTs Try.prog (c :: cs) bs) : ∃ a r, bs = a :: r ∧ WT Try.prog c a ∧ WTs Try.prog cs r := by
  obtain ⟨h1, h2⟩ := h
  cases bs with
  | nil => simp at h1
  | cons a r =>
    refine ⟨a, r, rfl, by simpa using h2 0 (by simp), by simpa using h1, fun j hj => ?_⟩
    simpa using h2 (j + 1) (by simpa using hj)
theorem WTs_nil {bs : List AV} (h : WTs Try.prog [] bs) : bs = [] := by simpa using h.1
theorem tyArgs_cons {t : TypeId} {ts : List TypeId} {bs : List AV} (h : TyArgs Try.prog (t :: ts) bs) : ∃ a r, bs = a :: r ∧ TyArg Try.prog t a ∧ TyArgs Try.prog ts r := by
  cases bs with
  | nil => cases h
  | cons a r => exact ⟨a, r, rfl, h.1, h.2⟩
theorem tyArgs_nil {bs : List AV} (h : TyArgs Try.prog [] bs) : bs = [] := by
  cases bs with
  | nil => rfl
  | cons a r => cases h
end Go.Proofs.Ytoglnllbopcejaa

set_option maxRecDepth 100000
namespace Go.Proofs.Ytoglnllbopcejaa
open Go Go.Ev
def its : ISpec := fun g caps => cond (Nat.beq g 60) (match caps with
  | [.rp [.sl 32] [.rs 32 es] 0] => cond (okS es) (some ((sidesX es).map encS)) none
  | _ => none) none
theorem its_ok : IOK Try.prog its := by
  intro g caps xs h
  unfold its at h
  obtain ⟨hg, h2⟩ := cond_some h
  clear h
  have hg := Nat.eq_of_beq_eq_true hg
  subst hg
  split at h2
  · obtain ⟨hc, h3⟩ := cond_some h2
    cases h3
    exact sides_con hc
  · cases h2
noncomputable def S1 : Ev.Spec := runS Try.prog its ro S0 300 5 12
theorem S1_ok : SpecOK Try.prog S1 := runS_ok its_ok mixed names S0_ok 12
theorem lives_eq : S1 8 [] [] = some (true, .b true, []) := by kernel_rfl
theorem lives_con : Con Try.prog 8 [] [] (.b true) [] := S1_ok _ _ _ _ _ _ lives_eq rfl
end Go.Proofs.Ytoglnllbopcejaa

set_option maxRecDepth 100000
set_option linter.unusedVariables false
namespace Go.Proofs.Ytoglnllbopcejaa
open Go Go.Ev
structure Lq where
  g7 : List (List AV) → List (List AV) → Int → Int → Int → List (List AV) → Bool
  w7 : List (List AV) → List (List AV) → Int → Int → Int → List (List AV) → Bool
  g9 : List (List AV) → List (List AV) → Int → Int → Int → List (List AV) → Int → Int → Int → Int → Bool
  p9 : List (List AV) → List (List AV) → Int → Int → Int → List (List AV) → Int → Int → Int → Int → (List (List AV)) × (List (List AV)) × Int × Int × Int × (List (List AV)) × Int
  g10 : List (List AV) → List (List AV) → Int → Int → Int → List (List AV) → Int → Int → Int → Int → Bool
  p10 : List (List AV) → List (List AV) → Int → Int → Int → List (List AV) → Int → Int → Int → Int → (List (List AV)) × (List (List AV)) × Int × Int × Int × (List (List AV)) × Int
  g11 : List (List AV) → List (List AV) → Int → Int → Int → List (List AV) → List (List AV) → List (List AV) → Int → Int → Int → List (List AV) → Bool
  w11 : List (List AV) → List (List AV) → Int → Int → Int → List (List AV) → List (List AV) → List (List AV) → Int → Int → Int → List (List AV) → Bool
noncomputable def Q0 : Lq := ⟨g7, w7_0, g9 V0, fun os hs st tl th ms u v rd wr => (t9 V0 os hs st tl th ms u v rd wr).val, g10 U0, fun os hs st tl th ms u v rd wr => (t10 U0 os hs st tl th ms u v rd wr).val, g11, w11_0⟩
noncomputable def e7q (V : Lq) (args : List AV) (rows : List Blk) : Option (Bool × AV × List Blk) := match args, rows with
  | [.agg [.rs a os, .rs b hs, .i .i64 st, .i .i64 tl, .i .i64 th, .rs c ms]], [] => cond (Nat.beq a 32 && (Nat.beq b 55 && (Nat.beq c 67))) (some (V.g7 os hs st tl th ms, .b (V.w7 os hs st tl th ms), [])) none
  | _, _ => none
theorem e7q_ok {V : Lq} (hV : V = Q0) (args : List AV) (rows : List Blk) (pre : Bool) (v : AV) (rows' : List Blk) (h : e7q V args rows = some (pre, v, rows')) (hp : pre = true) : Con Try.prog 7 args rows v rows' := by
  subst hV
  unfold e7q at h
  split at h <;> first | (cases h; done) | skip
  obtain ⟨h1, h2⟩ := cond_some2 h
  clear h
  simp only [Bool.and_eq_true] at h1
  obtain ⟨q0, q1, q2⟩ := h1
  obtain rfl := Nat.eq_of_beq_eq_true q0
  obtain rfl := Nat.eq_of_beq_eq_true q1
  obtain rfl := Nat.eq_of_beq_eq_true q2
  cases h2
  exact con7 _ _ _ _ _ _ hp
noncomputable def e9q (V : Lq) (args : List AV) (rows : List Blk) : Option (Bool × AV × List Blk) := match args, rows with
  | [.agg [.rs a os, .rs b hs, .i .i64 st, .i .i64 tl, .i .i64 th, .rs c ms], .agg [.i .i64 u, .i .i64 v], .i .i64 rd, .i .i64 wr], [] => cond (Nat.beq a 32 && (Nat.beq b 55 && (Nat.beq c 67))) (some (V.g9 os hs st tl th ms u v rd wr, .tup [.agg [.rs 32 (V.p9 os hs st tl th ms u v rd wr).1, .rs 55 (V.p9 os hs st tl th ms u v rd wr).2.1, .i .i64 (V.p9 os hs st tl th ms u v rd wr).2.2.1, .i .i64 (V.p9 os hs st tl th ms u v rd wr).2.2.2.1, .i .i64 (V.p9 os hs st tl th ms u v rd wr).2.2.2.2.1, .rs 67 (V.p9 os hs st tl th ms u v rd wr).2.2.2.2.2.1], .i .i64 (V.p9 os hs st tl th ms u v rd wr).2.2.2.2.2.2], [])) none
  | _, _ => none
theorem e9q_ok {V : Lq} (hV : V = Q0) (args : List AV) (rows : List Blk) (pre : Bool) (v : AV) (rows' : List Blk) (h : e9q V args rows = some (pre, v, rows')) (hp : pre = true) : Con Try.prog 9 args rows v rows' := by
  subst hV
  unfold e9q at h
  split at h <;> first | (cases h; done) | skip
  obtain ⟨h1, h2⟩ := cond_some2 h
  clear h
  simp only [Bool.and_eq_true] at h1
  obtain ⟨q0, q1, q2⟩ := h1
  obtain rfl := Nat.eq_of_beq_eq_true q0
  obtain rfl := Nat.eq_of_beq_eq_true q1
  obtain rfl := Nat.eq_of_beq_eq_true q2
  cases h2
  exact con9 rfl _ _ _ _ _ _ _ _ _ _ hp
noncomputable def e10q (V : Lq) (args : List AV) (rows : List Blk) : Option (Bool × AV × List Blk) := match args, rows with
  | [.agg [.rs a os, .rs b hs, .i .i64 st, .i .i64 tl, .i .i64 th, .rs c ms], .agg [.i .i64 u, .i .i64 v], .i .i64 rd, .i .i64 wr], [] => cond (Nat.beq a 32 && (Nat.beq b 55 && (Nat.beq c 67))) (some (V.g10 os hs st tl th ms u v rd wr, .tup [.agg [.rs 32 (V.p10 os hs st tl th ms u v rd wr).1, .rs 55 (V.p10 os hs st tl th ms u v rd wr).2.1, .i .i64 (V.p10 os hs st tl th ms u v rd wr).2.2.1, .i .i64 (V.p10 os hs st tl th ms u v rd wr).2.2.2.1, .i .i64 (V.p10 os hs st tl th ms u v rd wr).2.2.2.2.1, .rs 67 (V.p10 os hs st tl th ms u v rd wr).2.2.2.2.2.1], .i .i64 (V.p10 os hs st tl th ms u v rd wr).2.2.2.2.2.2], [])) none
  | _, _ => none
theorem e10q_ok {V : Lq} (hV : V = Q0) (args : List AV) (rows : List Blk) (pre : Bool) (v : AV) (rows' : List Blk) (h : e10q V args rows = some (pre, v, rows')) (hp : pre = true) : Con Try.prog 10 args rows v rows' := by
  subst hV
  unfold e10q at h
  split at h <;> first | (cases h; done) | skip
  obtain ⟨h1, h2⟩ := cond_some2 h
  clear h
  simp only [Bool.and_eq_true] at h1
  obtain ⟨q0, q1, q2⟩ := h1
  obtain rfl := Nat.eq_of_beq_eq_true q0
  obtain rfl := Nat.eq_of_beq_eq_true q1
  obtain rfl := Nat.eq_of_beq_eq_true q2
  cases h2
  exact con10 rfl _ _ _ _ _ _ _ _ _ _ hp
noncomputable def e11q (V : Lq) (args : List AV) (rows : List Blk) : Option (Bool × AV × List Blk) := match args, rows with
  | [.agg [.rs a os, .rs b hs, .i .i64 st, .i .i64 tl, .i .i64 th, .rs c ms], .agg [.rs d os', .rs e hs', .i .i64 st', .i .i64 tl', .i .i64 th', .rs f ms']], [] => cond (Nat.beq a 32 && (Nat.beq b 55 && (Nat.beq c 67 && (Nat.beq d 32 && (Nat.beq e 55 && (Nat.beq f 67)))))) (some (V.g11 os hs st tl th ms os' hs' st' tl' th' ms', .b (V.w11 os hs st tl th ms os' hs' st' tl' th' ms'), [])) none
  | _, _ => none
theorem e11q_ok {V : Lq} (hV : V = Q0) (args : List AV) (rows : List Blk) (pre : Bool) (v : AV) (rows' : List Blk) (h : e11q V args rows = some (pre, v, rows')) (hp : pre = true) : Con Try.prog 11 args rows v rows' := by
  subst hV
  unfold e11q at h
  split at h <;> first | (cases h; done) | skip
  obtain ⟨h1, h2⟩ := cond_some2 h
  clear h
  simp only [Bool.and_eq_true] at h1
  obtain ⟨q0, q1, q2, q3, q4, q5⟩ := h1
  obtain rfl := Nat.eq_of_beq_eq_true q0
  obtain rfl := Nat.eq_of_beq_eq_true q1
  obtain rfl := Nat.eq_of_beq_eq_true q2
  obtain rfl := Nat.eq_of_beq_eq_true q3
  obtain rfl := Nat.eq_of_beq_eq_true q4
  obtain rfl := Nat.eq_of_beq_eq_true q5
  cases h2
  exact con11 _ _ _ _ _ _ _ _ _ _ _ _ hp
noncomputable def e8q (args : List AV) (rows : List Blk) : Option (Bool × AV × List Blk) := match args, rows with
  | [], [] => some (true, .b true, [])
  | _, _ => none
theorem e8q_ok (args : List AV) (rows : List Blk) (pre : Bool) (v : AV) (rows' : List Blk) (h : e8q args rows = some (pre, v, rows')) (hp : pre = true) : Con Try.prog 8 args rows v rows' := by
  unfold e8q at h
  split at h
  · cases h; exact lives_con
  · cases h
noncomputable def SL (V : Lq) : Ev.Spec := insS 11 (e11q V) (insS 10 (e10q V) (insS 9 (e9q V) (insS 8 e8q (insS 7 (e7q V) S0))))
theorem SL_ok {V : Lq} (hV : V = Q0) : SpecOK Try.prog (SL V) := insS_ok (e11q_ok hV) (insS_ok (e10q_ok hV) (insS_ok (e9q_ok hV) (insS_ok e8q_ok (insS_ok (e7q_ok hV) S0_ok))))
end Go.Proofs.Ytoglnllbopcejaa

set_option maxRecDepth 100000
set_option maxHeartbeats 0
set_option linter.unusedVariables false
namespace Go.Proofs.Ytoglnllbopcejaa
open Go Go.Ev

noncomputable def c3 : Code := match Try.f3.body with | some c => c | _ => .skip
theorem lok3 {V : Lq} : LOK Try.prog (SL V) (ro 3) (fun _ _ => none) 0 false c3 [] :=
  lok_lo (fun _ _ _ _ _ _ _ h _ => by cases h) c3 [] false (locate_nil _) (by kernel_rfl)
noncomputable def t3 (V : Lq) (os hs : List (List AV)) (st tl th : Int) (ms : List (List AV)) (u v rd wr : Int) : Tr ((Bool)) :=
  .cn (V.g7 os hs st tl th ms) (.cn (V.w7 os hs st tl th ms) (.lf (true)) (.cn (V.g9 os hs st tl th ms u v rd wr) (.cn (V.g10 os hs st tl th ms u v rd wr) (.cn (V.g11 (V.p9 os hs st tl th ms u v rd wr).fst (V.p9 os hs st tl th ms u v rd wr).snd.fst (V.p9 os hs st tl th ms u v rd wr).snd.snd.fst (V.p9 os hs st tl th ms u v rd wr).snd.snd.snd.fst (V.p9 os hs st tl th ms u v rd wr).snd.snd.snd.snd.fst (V.p9 os hs st tl th ms u v rd wr).snd.snd.snd.snd.snd.fst (V.p10 os hs st tl th ms u v rd wr).fst (V.p10 os hs st tl th ms u v rd wr).snd.fst (V.p10 os hs st tl th ms u v rd wr).snd.snd.fst (V.p10 os hs st tl th ms u v rd wr).snd.snd.snd.fst (V.p10 os hs st tl th ms u v rd wr).snd.snd.snd.snd.fst (V.p10 os hs st tl th ms u v rd wr).snd.snd.snd.snd.snd.fst) (.cn (V.w11 (V.p9 os hs st tl th ms u v rd wr).fst (V.p9 os hs st tl th ms u v rd wr).snd.fst (V.p9 os hs st tl th ms u v rd wr).snd.snd.fst (V.p9 os hs st tl th ms u v rd wr).snd.snd.snd.fst (V.p9 os hs st tl th ms u v rd wr).snd.snd.snd.snd.fst (V.p9 os hs st tl th ms u v rd wr).snd.snd.snd.snd.snd.fst (V.p10 os hs st tl th ms u v rd wr).fst (V.p10 os hs st tl th ms u v rd wr).snd.fst (V.p10 os hs st tl th ms u v rd wr).snd.snd.fst (V.p10 os hs st tl th ms u v rd wr).snd.snd.snd.fst (V.p10 os hs st tl th ms u v rd wr).snd.snd.snd.snd.fst (V.p10 os hs st tl th ms u v rd wr).snd.snd.snd.snd.snd.fst) (.cn ((V.p9 os hs st tl th ms u v rd wr).snd.snd.snd.snd.snd.snd == (V.p10 os hs st tl th ms u v rd wr).snd.snd.snd.snd.snd.snd) (.lf (true)) (.lf (false))) (.lf (false))) (.nn)) (.nn)) (.nn))) (.nn)
noncomputable def g3 (V : Lq) (os hs : List (List AV)) (st tl th : Int) (ms : List (List AV)) (u v rd wr : Int) : Bool := (t3 V os hs st tl th ms u v rd wr).g
noncomputable def w3_0 (V : Lq) (os hs : List (List AV)) (st tl th : Int) (ms : List (List AV)) (u v rd wr : Int) : Bool := (t3 V os hs st tl th ms u v rd wr).val
theorem eq3 (V : Lq) (os hs : List (List AV)) (st tl th : Int) (ms : List (List AV)) (u v rd wr : Int) : evF Try.prog (SL V) (ro 3) (fun _ _ => none) Try.f3 [.agg [.rs 32 os, .rs 55 hs, .i .i64 st, .i .i64 tl, .i .i64 th, .rs 67 ms], .agg [.i .i64 u, .i .i64 v], .i .i64 rd, .i .i64 wr] = (t3 V os hs st tl th ms u v rd wr).opt (fun (x : (Bool)) => (.b x : AV)) := by kernel_rfl
theorem con3 {V : Lq} (hV : V = Q0) (os hs : List (List AV)) (st tl th : Int) (ms : List (List AV)) (u v rd wr : Int) (h : g3 V os hs st tl th ms u v rd wr = true) : Con Try.prog 3 [.agg [.rs 32 os, .rs 55 hs, .i .i64 st, .i .i64 tl, .i .i64 th, .rs 67 ms], .agg [.i .i64 u, .i .i64 v], .i .i64 rd, .i .i64 wr] [] (.b (w3_0 V os hs st tl th ms u v rd wr)) [] :=
  con_of (SL_ok hV) mixed Try.func3 (c := c3) rfl (names 3 _ Try.func3) lok3 ((eq3 V os hs st tl th ms u v rd wr).trans (Tr.sound _ _ h))
noncomputable def e3 (args : List AV) (rows : List Blk) : Option (Bool × AV × List Blk) := match args, rows with
  | [.agg [.rs 32 os, .rs 55 hs, .i .i64 st, .i .i64 tl, .i .i64 th, .rs 67 ms], .agg [.i .i64 u, .i .i64 v], .i .i64 rd, .i .i64 wr], [] => some (g3 Q0 os hs st tl th ms u v rd wr, .b (w3_0 Q0 os hs st tl th ms u v rd wr), [])
  | _, _ => none
-- SPEC 3
end Go.Proofs.Ytoglnllbopcejaa

set_option maxRecDepth 100000
set_option linter.unusedVariables false
namespace Go.Proofs.Ytoglnllbopcejaa
open Go Go.Ev
theorem int_of {a : AV} (h : TyArg Try.prog 3 a) : ∃ x, a = .i .i64 x ∧ IntKind.i64.min ≤ x ∧ x ≤ IntKind.i64.max := by
  obtain ⟨n, e, n1, n2⟩ := WT_int (ty_one (c := .int .i64) (by kernel_rfl) (by kernel_rfl) h)
  exact ⟨n, e, n1, n2⟩
theorem pt_of {a : AV} (h : TyArg Try.prog 32 a) : ∃ u v, a = .agg [.i .i64 u, .i .i64 v] ∧ (IntKind.i64.min ≤ u ∧ u ≤ IntKind.i64.max) ∧ IntKind.i64.min ≤ v ∧ v ≤ IntKind.i64.max := by
  obtain ⟨bs, rfl, hw⟩ := ty_agg (c := [.int .i64, .int .i64]) (by kernel_rfl) (by kernel_rfl) h
  obtain ⟨b0, q0, rfl, w0, hw⟩ := WTs_cons hw
  obtain ⟨b1, q1, rfl, w1, hw⟩ := WTs_cons hw
  obtain rfl := WTs_nil hw
  obtain ⟨u, rfl, r1⟩ := WT_int w0
  obtain ⟨v, rfl, r2⟩ := WT_int w1
  exact ⟨u, v, rfl, r1, r2⟩
theorem plain_rows {os : List (List AV)} (h : ∀ x, x ∈ os → ∃ u v, x = [.i .i64 u, .i .i64 v] ∧ (IntKind.i64.min ≤ u ∧ u ≤ IntKind.i64.max) ∧ (IntKind.i64.min ≤ v ∧ v ≤ IntKind.i64.max)) : (sidesX os).all (fun x => plainL (encS x)) = true := by
  have key : ∀ i k, IntKind.i64.min ≤ fI (os.getD i []) k ∧ fI (os.getD i []) k ≤ IntKind.i64.max := by
    intro i k
    by_cases hi : i < os.length
    · obtain ⟨u, v, e, hu, hv⟩ := h (os.getD i []) (by simp [List.getD_eq_getElem?_getD, List.getElem?_eq_getElem hi])
      rw [e]
      match k with
      | 0 => exact hu
      | 1 => exact hv
      | k + 2 =>
        rw [show fI [AV.i .i64 u, AV.i .i64 v] (k + 2) = 0 from rfl]
        decide
    · rw [show os.getD i [] = [] by simp [List.getD_eq_getElem?_getD, List.getElem?_eq_none (show os.length ≤ i by omega)]]
      rw [show fI [] k = 0 from rfl]
      decide
  refine List.all_eq_true.2 fun x hx => ?_
  obtain ⟨i, _, rfl⟩ := List.mem_map.1 hx
  have p : ∀ i k, plain (.i .i64 (fI (os.getD i []) k)) = true := fun i k => by
    have := key i k
    simp only [plain, Bool.and_eq_true, decide_eq_true_eq]
    exact this
  generalize (i + 1) % os.length = j
  show ((plain (.i .i64 (fI (os.getD i []) 0)) && (plain (.i .i64 (fI (os.getD i []) 1)) && (plain (.i .i64 (fI (os.getD j []) 0)) && (plain (.i .i64 (fI (os.getD j []) 1)) && true)))) && true) = true
  rw [p, p, p, p]
  rfl
def plainS (os : List (List AV)) : Prop := (sidesX os).all (fun x => plainL (encS x)) = true
theorem skin_of {a : AV} (h : TyArg Try.prog 30 a) : ∃ os hs st tl th L, a = .agg [.rs 32 os, .rs 55 hs, .i .i64 st, .i .i64 tl, .i .i64 th, .rs 67 (List.map en L)] ∧ plainS os := by
  obtain ⟨bs, rfl, hw⟩ := ty_agg (c := [.sl 32, .sl 55, .int .i64, .int .i64, .int .i64, .sl 67]) (by kernel_rfl) (by kernel_rfl) h
  obtain ⟨b0, q0, rfl, w0, hw⟩ := WTs_cons hw
  obtain ⟨b1, q1, rfl, w1, hw⟩ := WTs_cons hw
  obtain ⟨b2, q2, rfl, w2, hw⟩ := WTs_cons hw
  obtain ⟨b3, q3, rfl, w3, hw⟩ := WTs_cons hw
  obtain ⟨b4, q4, rfl, w4, hw⟩ := WTs_cons hw
  obtain ⟨b5, q5, rfl, w5, hw⟩ := WTs_cons hw
  obtain rfl := WTs_nil hw
  obtain ⟨os, rfl, o1, o2, o3⟩ := WT_sl w0
  obtain ⟨hs, rfl, _⟩ := WT_sl w1
  obtain ⟨st, rfl, _⟩ := WT_int w2
  obtain ⟨tl, rfl, _⟩ := WT_int w3
  obtain ⟨th, rfl, _⟩ := WT_int w4
  obtain ⟨ms, rfl, m1, m2, m3⟩ := WT_sl w5
  have hm : (ms.map fun e => (⟨fI e 0, fI e 1, fI e 2, fI e 3⟩ : Mk)).map en = ms := by
    rw [List.map_map]
    conv => rhs; rw [← List.map_id ms]
    refine List.map_congr_left fun x hx => ?_
    have e : cts Try.prog 67 = [.int .i64, .int .i64, .int .i64, .int .i64] := by kernel_rfl
    have hl := m2 x hx
    have hc := m3 x hx
    rw [e] at hl hc
    match x, hl with
    | [a, b, c, d], _ =>
      obtain ⟨x0, rfl, _⟩ := WT_int (show WT Try.prog (.int .i64) a from hc 0 (by simp))
      obtain ⟨x1, rfl, _⟩ := WT_int (show WT Try.prog (.int .i64) b from hc 1 (by simp))
      obtain ⟨x2, rfl, _⟩ := WT_int (show WT Try.prog (.int .i64) c from hc 2 (by simp))
      obtain ⟨x3, rfl, _⟩ := WT_int (show WT Try.prog (.int .i64) d from hc 3 (by simp))
      rfl
  refine ⟨os, hs, st, tl, th, ms.map fun e => (⟨fI e 0, fI e 1, fI e 2, fI e 3⟩ : Mk), by rw [hm], plain_rows fun x hx => ?_⟩
  have e : cts Try.prog 32 = [.int .i64, .int .i64] := by kernel_rfl
  have hl := o2 x hx
  have hc := o3 x hx
  rw [e] at hl hc
  match x, hl with
  | [a, b], _ =>
    obtain ⟨u, rfl, u1⟩ := WT_int (show WT Try.prog (.int .i64) a from hc 0 (by simp))
    obtain ⟨v, rfl, v1⟩ := WT_int (show WT Try.prog (.int .i64) b from hc 1 (by simp))
    exact ⟨u, v, rfl, u1, v1⟩
theorem great_len {os hs ms : List (List AV)} (h : greatB os hs ms = false) : os.length ≤ 30 ∧ hs.length ≤ 30 ∧ ms.length ≤ 60 := by
  unfold greatB at h
  rw [Bool.or_eq_false_iff, Bool.or_eq_false_iff, Bool.or_eq_false_iff] at h
  have h1 := of_decide_eq_false h.1
  have h2 := of_decide_eq_false h.2.1
  have h3 := of_decide_eq_false h.2.2.1
  omega
theorem okS_of {os : List (List AV)} (h : plainS os) (hl : os.length ≤ 30) : okS os = true := by
  unfold okS
  rw [show (sidesX os).all (fun x => plainL (encS x)) = true from h, Nat.ble_eq_true_of_le (show os.length ≤ 9223372036854775806 by omega)]
  rfl

theorem probeX_len (os hs : List (List AV)) (st tl th : Int) (L : List Mk) (u v rd wr : Int) (ho : os.length ≤ 30) (hh : hs.length ≤ 30) :
    (probeX os hs st tl th L u v rd wr).1.length ≤ 30 ∧ (probeX os hs st tl th L u v rd wr).2.1.length ≤ 30 ∧ (probeX os hs st tl th L u v rd wr).2.2.2.2.2.1.length ≤ 60 := by
  unfold probeX
  cases checkW os hs (L.map en) st tl th != 0
  · cases !hasB os hs u v
    · cases !inB rd 0 2000
      · cases !inB wr 0 2000
        · cases h : decide (((insM (pr u v rd wr) L).length : Int) > 40)
          · cases checkW os hs ((insM (pr u v rd wr) L).map en) st tl th != 0
            · have h := of_decide_eq_false h
              refine ⟨ho, hh, ?_⟩
              show ((insM (pr u v rd wr) L).map en).length ≤ 60
              rw [List.length_map]; omega
            · exact ⟨by simp [noSk], by simp [noSk], by simp [noSk]⟩
          · exact ⟨by simp [noSk], by simp [noSk], by simp [noSk]⟩
        · exact ⟨by simp [noSk], by simp [noSk], by simp [noSk]⟩
      · exact ⟨by simp [noSk], by simp [noSk], by simp [noSk]⟩
    · exact ⟨by simp [noSk], by simp [noSk], by simp [noSk]⟩
  · exact ⟨by simp [noSk], by simp [noSk], by simp [noSk]⟩
theorem probes_val (os hs : List (List AV)) (st tl th : Int) (L : List Mk) (u v rd wr : Int) (hp : plainS os) : g3 Q0 os hs st tl th (L.map en) u v rd wr = true ∧ w3_0 Q0 os hs st tl th (L.map en) u v rd wr = true := by
  refine TrP.ok (t := t3 Q0 os hs st tl th (L.map en) u v rd wr) (p := fun x => x = true) ?_
  unfold t3
  refine .t (k7 os hs st tl th _).1 ?_
  show TrP _ (.cn (w7_0 os hs st tl th (L.map en)) _ _)
  rw [(k7 os hs st tl th _).2]
  cases hg : greatB os hs (L.map en)
  · obtain ⟨l1, l2, l3⟩ := great_len hg
    have ho := okS_of hp l1
    obtain ⟨n1, n2, n3⟩ := probeX_len os hs st tl th L u v rd wr l1 l2
    have e9 : Q0.p9 os hs st tl th (L.map en) u v rd wr = probeX os hs st tl th L u v rd wr := (k9 os hs st tl th L u v rd wr ho).2
    have e10 : Q0.p10 os hs st tl th (L.map en) u v rd wr = probeX os hs st tl th L u v rd wr := (k10 os hs st tl th L u v rd wr).2
    refine .f rfl (.t (k9 os hs st tl th L u v rd wr ho).1 (.t (k10 os hs st tl th L u v rd wr).1 ?_))
    rw [e9, e10]
    generalize probeX os hs st tl th L u v rd wr = x at n1 n2 n3 ⊢
    have hs := k11_self x.1 x.2.1 x.2.2.1 x.2.2.2.1 x.2.2.2.2.1 x.2.2.2.2.2.1 (by omega) (by omega) (by omega)
    exact .t hs.1 (.t hs.2 (.t (by simp) rfl))
  · exact .t rfl rfl
theorem wearProbes_law (avs : List AV) (h : TyArgs Try.prog Try.f3.params.toList avs) : Con Try.prog 3 avs [] (.b true) [] := by
  obtain ⟨a0, r0, rfl, h0, h⟩ := tyArgs_cons h
  obtain ⟨a1, r1, rfl, h1, h⟩ := tyArgs_cons h
  obtain ⟨a2, r2, rfl, h2, h⟩ := tyArgs_cons h
  obtain ⟨a3, r3, rfl, h3, h⟩ := tyArgs_cons h
  obtain rfl := tyArgs_nil h
  obtain ⟨os, hs, st, tl, th, L, rfl, hp⟩ := skin_of h0
  obtain ⟨u, v, rfl, _⟩ := pt_of h1
  obtain ⟨rd, rfl, _⟩ := int_of h2
  obtain ⟨wr, rfl, _⟩ := int_of h3
  obtain ⟨q1, q2⟩ := probes_val os hs st tl th L u v rd wr hp
  have := con3 rfl os hs st tl th (L.map en) u v rd wr q1
  rw [q2] at this
  exact this
end Go.Proofs.Ytoglnllbopcejaa
