/-
  The law RidgeFibonacci of the roofer's ridges answers true whatever byte it is handed; no conditions.
-/
import Derived.Test.YtgifjphinkbcaaaRb
set_option linter.unusedVariables false
set_option maxRecDepth 100000
set_option linter.unusedVariables false
namespace Go.Proofs.Ytgifjphinkbcaaa
open Go Go.Ev

/-! ### ref.patterns -/
noncomputable def c80 : Code := match Try.f80.body with | some c => c | _ => .skip
noncomputable def lp80a : Code := loopAt c80 [true, true, false, true, false]
noncomputable def s80a (ws : List (List AV)) (da : Int) (db : Int) (cs : List (List AV)) (t5 : Nat) (t6 : Int) (m5 : List (List AV)) : St :=
  { t := [(1, .rs 3 ws), (2, .rp [.int .i64, .int .i64, .sl 64] [.i .i64 da, .i .i64 db, .rs 64 cs] 0), (4, .nl), (5, .sl 5 0 t5), (6, .i .i64 t6)], m := [(0, .dead), (1, .dead), (2, .dead), (3, .dead), (4, .dead), (5, .row 4 m5)], nx := 6, nt := 55 }
noncomputable def lp80aa : Code := loopAt c80 [true, true, false, true, false, false, true, false, false, true, false, true, false]
noncomputable def s80aa (ws : List (List AV)) (da : Int) (db : Int) (cs : List (List AV)) (t5 : Nat) (t6 : Int) (t7 : Int) (t8 : Int) (m5 : List (List AV)) : St :=
  { t := [(1, .rs 3 ws), (2, .rp [.int .i64, .int .i64, .sl 64] [.i .i64 da, .i .i64 db, .rs 64 cs] 0), (4, .nl), (5, .sl 5 0 t5), (6, .i .i64 t6), (7, .i .i64 t7), (8, .i .i64 t8)], m := [(0, .dead), (1, .dead), (2, .dead), (3, .dead), (4, .dead), (5, .row 4 m5)], nx := 6, nt := 55 }
structure S80aa where
  t7 : Int
  t8 : Int
inductive T80aa where
  | x0 (t7 : Int) (t8 : Int)
noncomputable def stp80aa (ws : List (List AV)) (da : Int) (db : Int) (cs : List (List AV)) (t5 : Nat) (t6 : Int) (m5 : List (List AV)) (t7 : Int) (t8 : Int) : Lp S80aa T80aa :=
  cond (decide (t8 < (↑ws.length : Int))) (cond (decide (0 ≤ t8)) (cond (IntKind.i64.wrap (↑(BitVec.ofInt 64 (t6.fdiv (2 ^ min t8.toNat 64)) &&& BitVec.ofInt 64 1).toNat : Int) == 1) (cond (inb t8 ws.length) (cond (inb (fI (ws.getD t8.toNat []) 0) cs.length) (.go ⟨IntKind.i64.wrap (IntKind.i64.wrap (t7 + fI (cs.getD (fI (ws.getD t8.toNat []) 0).toNat []) 0) + db), IntKind.i64.wrap (t8 + 1)⟩) (.bad)) (.bad)) (.go ⟨t7, IntKind.i64.wrap (t8 + 1)⟩)) (.bad)) (.out (.x0 t7 t8))
noncomputable def o80aa_0 (ws : List (List AV)) (da : Int) (db : Int) (cs : List (List AV)) (t5 : Nat) (t6 : Int) (m5 : List (List AV)) (t7 : Int) (t8 : Int) : St :=
  { t := [(1, .rs 3 ws), (2, .rp [.int .i64, .int .i64, .sl 64] [.i .i64 da, .i .i64 db, .rs 64 cs] 0), (4, .nl), (5, .sl 5 0 t5), (6, .i .i64 t6), (7, .i .i64 t7), (8, .i .i64 t8)], m := [(0, .dead), (1, .dead), (2, .dead), (3, .dead), (4, .dead), (5, .row 4 m5)], nx := 6, nt := 55 }
noncomputable def ou80aa (ws : List (List AV)) (da : Int) (db : Int) (cs : List (List AV)) (t5 : Nat) (t6 : Int) (m5 : List (List AV)) : T80aa → Ex × St
  | .x0 t7 t8 => (.ext 2, o80aa_0 ws da db cs t5 t6 m5 t7 t8)
noncomputable def r80aa (ws : List (List AV)) (da : Int) (db : Int) (cs : List (List AV)) (t5 : Nat) (t6 : Int) (m5 : List (List AV)) (t7 : Int) (t8 : Int) : Option T80aa := run (fun x => stp80aa ws da db cs t5 t6 m5 x.t7 x.t8) (⟨t7, t8⟩ : S80aa)
noncomputable def i80aa_0 (ws : List (List AV)) (da : Int) (db : Int) (cs : List (List AV)) (t5 : Nat) (t6 : Int) (m5 : List (List AV)) (t7 : Int) (t8 : Int) : Bool := match r80aa ws da db cs t5 t6 m5 t7 t8 with
  | some (.x0 _ _) => true
  | _ => false
noncomputable def v80aa_0_t7 (ws : List (List AV)) (da : Int) (db : Int) (cs : List (List AV)) (t5 : Nat) (t6 : Int) (m5 : List (List AV)) (t7 : Int) (t8 : Int) : Int := match r80aa ws da db cs t5 t6 m5 t7 t8 with
  | some (.x0 t7 _) => t7
  | _ => default
noncomputable def v80aa_0_t8 (ws : List (List AV)) (da : Int) (db : Int) (cs : List (List AV)) (t5 : Nat) (t6 : Int) (m5 : List (List AV)) (t7 : Int) (t8 : Int) : Int := match r80aa ws da db cs t5 t6 m5 t7 t8 with
  | some (.x0 _ t8) => t8
  | _ => default
noncomputable def l80aa (st : St) : Option (List (Bool × Ex × St)) := match normW Try.prog [(1, none), (2, none), (4, none), (5, none), (6, none), (7, none), (8, none)] 6 st with
  | some ([.rs 3 ws, .rp [.int .i64, .int .i64, .sl 64] [.i .i64 da, .i .i64 db, .rs 64 cs] 0, .nl, .sl 5 0 t5, .i .i64 t6, .i .i64 t7, .i .i64 t8], [(0, .dead), (1, .dead), (2, .dead), (3, .dead), (4, .dead), (5, .row 4 m5)], 6, 55) => some [(i80aa_0 ws da db cs t5 t6 m5 t7 t8, .ext 2, o80aa_0 ws da db cs t5 t6 m5 (v80aa_0_t7 ws da db cs t5 t6 m5 t7 t8) (v80aa_0_t8 ws da db cs t5 t6 m5 t7 t8))]
  | _ => none
structure S80a where
  t6 : Int
  m5 : List (List AV)
inductive T80a where
  | x0 (t6 : Int) (m5 : List (List AV))
noncomputable def stp80a (ws : List (List AV)) (da : Int) (db : Int) (cs : List (List AV)) (t5 : Nat) (t6 : Int) (m5 : List (List AV)) : Lp S80a T80a :=
  cond (decide (t6 < (↑t5 : Int))) (cond (i80aa_0 ws da db cs t5 t6 m5 0 0) (cond (inb t6 t5 && (0 + t6.toNat).blt m5.length) (cond ((0 + t6.toNat).blt m5.length) (.go ⟨IntKind.i64.wrap (t6 + 1), m5.set (0 + t6.toNat) (setCs (m5.getD (0 + t6.toNat) []) 0 [AV.b (decide (v80aa_0_t7 ws da db cs t5 t6 m5 0 0 ≤ IntKind.i64.wrap (da + db)))])⟩) (.bad)) (.bad)) (.bad)) (.out (.x0 t6 m5))
noncomputable def o80a_0 (ws : List (List AV)) (da : Int) (db : Int) (cs : List (List AV)) (t5 : Nat) (t6 : Int) (m5 : List (List AV)) : St :=
  { t := [(1, .rs 3 ws), (2, .rp [.int .i64, .int .i64, .sl 64] [.i .i64 da, .i .i64 db, .rs 64 cs] 0), (4, .nl), (5, .sl 5 0 t5), (6, .i .i64 t6)], m := [(0, .dead), (1, .dead), (2, .dead), (3, .dead), (4, .dead), (5, .row 4 m5)], nx := 6, nt := 55 }
noncomputable def ou80a (ws : List (List AV)) (da : Int) (db : Int) (cs : List (List AV)) (t5 : Nat) : T80a → Ex × St
  | .x0 t6 m5 => (.ext 0, o80a_0 ws da db cs t5 t6 m5)
noncomputable def r80a (ws : List (List AV)) (da : Int) (db : Int) (cs : List (List AV)) (t5 : Nat) (t6 : Int) (m5 : List (List AV)) : Option T80a := run (fun x => stp80a ws da db cs t5 x.t6 x.m5) (⟨t6, m5⟩ : S80a)
noncomputable def i80a_0 (ws : List (List AV)) (da : Int) (db : Int) (cs : List (List AV)) (t5 : Nat) (t6 : Int) (m5 : List (List AV)) : Bool := match r80a ws da db cs t5 t6 m5 with
  | some (.x0 _ _) => true
  | _ => false
noncomputable def v80a_0_t6 (ws : List (List AV)) (da : Int) (db : Int) (cs : List (List AV)) (t5 : Nat) (t6 : Int) (m5 : List (List AV)) : Int := match r80a ws da db cs t5 t6 m5 with
  | some (.x0 t6 _) => t6
  | _ => default
noncomputable def v80a_0_m5 (ws : List (List AV)) (da : Int) (db : Int) (cs : List (List AV)) (t5 : Nat) (t6 : Int) (m5 : List (List AV)) : List (List AV) := match r80a ws da db cs t5 t6 m5 with
  | some (.x0 _ m5) => m5
  | _ => default
noncomputable def l80a (st : St) : Option (List (Bool × Ex × St)) := match normW Try.prog [(1, none), (2, none), (4, none), (5, none), (6, none)] 6 st with
  | some ([.rs 3 ws, .rp [.int .i64, .int .i64, .sl 64] [.i .i64 da, .i .i64 db, .rs 64 cs] 0, .nl, .sl 5 0 t5, .i .i64 t6], [(0, .dead), (1, .dead), (2, .dead), (3, .dead), (4, .dead), (5, .row 4 m5)], 6, 55) => some [(i80a_0 ws da db cs t5 t6 m5, .ext 0, o80a_0 ws da db cs t5 (v80a_0_t6 ws da db cs t5 t6 m5) (v80a_0_m5 ws da db cs t5 t6 m5))]
  | _ => none
noncomputable def L80 : LSpec := fun p st => match p with
  | [false, true, false, true, false, false, true, false, false, true, false, true, true] => l80aa st
  | [false, true, false, true, true] => l80a st
  | _ => none
theorem is80aa_0 (ws : List (List AV)) (da : Int) (db : Int) (cs : List (List AV)) (t5 : Nat) (t6 : Int) (m5 : List (List AV)) (t7 : Int) (t8 : Int) (h : i80aa_0 ws da db cs t5 t6 m5 t7 t8 = true) : r80aa ws da db cs t5 t6 m5 t7 t8 = some (.x0 (v80aa_0_t7 ws da db cs t5 t6 m5 t7 t8) (v80aa_0_t8 ws da db cs t5 t6 m5 t7 t8)) := by
  unfold i80aa_0 at h
  unfold v80aa_0_t7 v80aa_0_t8
  generalize r80aa ws da db cs t5 t6 m5 t7 t8 = r at h ⊢
  rcases r with _ | y
  · cases h
  · cases y <;> first | rfl | cases h
theorem round80aa (ws : List (List AV)) (da : Int) (db : Int) (cs : List (List AV)) (t5 : Nat) (t6 : Int) (t7 : Int) (t8 : Int) (m5 : List (List AV)) : round Try.prog Sb (ro 80) L80 lp80aa [false, true, false, true, false, false, true, false, false, true, false, true, true] [(1, none), (2, none), (4, none), (5, none), (6, none), (7, none), (8, none)] 6 (s80aa ws da db cs t5 t6 t7 t8 m5) =
    cond (decide (t8 < (↑ws.length : Int))) (cond (decide (0 ≤ t8)) (cond (IntKind.i64.wrap (↑(BitVec.ofInt 64 (t6.fdiv (2 ^ min t8.toNat 64)) &&& BitVec.ofInt 64 1).toNat : Int) == 1) (cond (inb t8 ws.length) (cond (inb (fI (ws.getD t8.toNat []) 0) cs.length) (some (.nrm, s80aa ws da db cs t5 t6 (IntKind.i64.wrap (IntKind.i64.wrap (t7 + fI (cs.getD (fI (ws.getD t8.toNat []) 0).toNat []) 0) + db)) (IntKind.i64.wrap (t8 + 1)) m5)) (none)) (none)) (some (.nrm, s80aa ws da db cs t5 t6 t7 (IntKind.i64.wrap (t8 + 1)) m5))) (none)) (some (.ext 2, o80aa_0 ws da db cs t5 t6 m5 t7 t8)) := by kernel_rfl
theorem rnd80aa (ws : List (List AV)) (da : Int) (db : Int) (cs : List (List AV)) (t5 : Nat) (t6 : Int) (m5 : List (List AV)) (x : S80aa) : round Try.prog Sb (ro 80) L80 lp80aa [false, true, false, true, false, false, true, false, false, true, false, true, true] [(1, none), (2, none), (4, none), (5, none), (6, none), (7, none), (8, none)] 6 ((fun x => s80aa ws da db cs t5 t6 x.t7 x.t8 m5) x) = toR (fun x => s80aa ws da db cs t5 t6 x.t7 x.t8 m5) (ou80aa ws da db cs t5 t6 m5) (stp80aa ws da db cs t5 t6 m5 x.t7 x.t8) := by
  refine (round80aa _ _ _ _ _ _ _ _ _ ).trans ?_
  unfold stp80aa
  simp only [toR_cond]
  rfl
theorem lok80aa {st : St} {outs : List (Bool × Ex × St)} {e : Ex} {s : St} (hl : l80aa st = some outs) (hch : Chosen outs e s) :
    ∃ keep nb, 0 ≤ nb ∧ LB Try.prog Sb (ro 80) L80 lp80aa [false, true, false, true, false, false, true, false, false, true, false, true, true] keep nb st e s := by
  unfold l80aa at hl
  split at hl
  · rename_i ws da db cs t5 t6 t7 t8 m5 hno
    cases hl
    have hno := normW_norm hno
    refine ⟨_, _, ?_, .enter hno ?_⟩
    · decide
    have main := fun y h => LB_run (x := (⟨t7, t8⟩ : S80aa)) (y := y) (nb := 6) (fun y => by cases y <;> simp [ou80aa]) (rnd80aa ws da db cs t5 t6 m5) h
    obtain ⟨x, hx, hg, rfl, rfl⟩ := chosen_any hch
    simp only [List.mem_cons, List.not_mem_nil, or_false] at hx
    subst hx
    exact main _ (is80aa_0 ws da db cs t5 t6 m5 t7 t8 hg)
  · cases hl
theorem is80a_0 (ws : List (List AV)) (da : Int) (db : Int) (cs : List (List AV)) (t5 : Nat) (t6 : Int) (m5 : List (List AV)) (h : i80a_0 ws da db cs t5 t6 m5 = true) : r80a ws da db cs t5 t6 m5 = some (.x0 (v80a_0_t6 ws da db cs t5 t6 m5) (v80a_0_m5 ws da db cs t5 t6 m5)) := by
  unfold i80a_0 at h
  unfold v80a_0_t6 v80a_0_m5
  generalize r80a ws da db cs t5 t6 m5 = r at h ⊢
  rcases r with _ | y
  · cases h
  · cases y <;> first | rfl | cases h
theorem round80a (ws : List (List AV)) (da : Int) (db : Int) (cs : List (List AV)) (t5 : Nat) (t6 : Int) (m5 : List (List AV)) : round Try.prog Sb (ro 80) L80 lp80a [false, true, false, true, true] [(1, none), (2, none), (4, none), (5, none), (6, none)] 6 (s80a ws da db cs t5 t6 m5) =
    cond (decide (t6 < (↑t5 : Int))) (cond (i80aa_0 ws da db cs t5 t6 m5 0 0) (cond (inb t6 t5 && (0 + t6.toNat).blt m5.length) (cond ((0 + t6.toNat).blt m5.length) (some (.nrm, s80a ws da db cs t5 (IntKind.i64.wrap (t6 + 1)) (m5.set (0 + t6.toNat) (setCs (m5.getD (0 + t6.toNat) []) 0 [AV.b (decide (v80aa_0_t7 ws da db cs t5 t6 m5 0 0 ≤ IntKind.i64.wrap (da + db)))])))) (none)) (none)) (none)) (some (.ext 0, o80a_0 ws da db cs t5 t6 m5)) := by kernel_rfl
theorem rnd80a (ws : List (List AV)) (da : Int) (db : Int) (cs : List (List AV)) (t5 : Nat) (x : S80a) : round Try.prog Sb (ro 80) L80 lp80a [false, true, false, true, true] [(1, none), (2, none), (4, none), (5, none), (6, none)] 6 ((fun x => s80a ws da db cs t5 x.t6 x.m5) x) = toR (fun x => s80a ws da db cs t5 x.t6 x.m5) (ou80a ws da db cs t5) (stp80a ws da db cs t5 x.t6 x.m5) := by
  refine (round80a _ _ _ _ _ _ _ ).trans ?_
  unfold stp80a
  simp only [toR_cond]
  rfl
theorem lok80a {st : St} {outs : List (Bool × Ex × St)} {e : Ex} {s : St} (hl : l80a st = some outs) (hch : Chosen outs e s) :
    ∃ keep nb, 0 ≤ nb ∧ LB Try.prog Sb (ro 80) L80 lp80a [false, true, false, true, true] keep nb st e s := by
  unfold l80a at hl
  split at hl
  · rename_i ws da db cs t5 t6 m5 hno
    cases hl
    have hno := normW_norm hno
    refine ⟨_, _, ?_, .enter hno ?_⟩
    · decide
    have main := fun y h => LB_run (x := (⟨t6, m5⟩ : S80a)) (y := y) (nb := 6) (fun y => by cases y <;> simp [ou80a]) (rnd80a ws da db cs t5) h
    obtain ⟨x, hx, hg, rfl, rfl⟩ := chosen_any hch
    simp only [List.mem_cons, List.not_mem_nil, or_false] at hx
    subst hx
    exact main _ (is80a_0 ws da db cs t5 t6 m5 hg)
  · cases hl
theorem L80_ok (q : Pl) (c : Code) (hq : locate c80 q.reverse = some (.loop c)) (st : St) (outs : List (Bool × Ex × St)) (e : Ex) (s : St) (hl : L80 q st = some outs) (hch : Chosen outs e s) :
    ∃ keep nb, 0 ≤ nb ∧ LB Try.prog Sb (ro 80) L80 c q keep nb st e s := by
  unfold L80 at hl
  split at hl
  · have : locate c80 ([false, true, false, true, false, false, true, false, false, true, false, true, true] : Pl).reverse = some (.loop lp80aa) := by kernel_rfl
    rw [this] at hq
    cases hq
    exact lok80aa hl hch
  · have : locate c80 ([false, true, false, true, true] : Pl).reverse = some (.loop lp80a) := by kernel_rfl
    rw [this] at hq
    cases hq
    exact lok80a hl hch
  · cases hl
theorem lok80 : LOK Try.prog Sb (ro 80) L80 0 false c80 [] :=
  lok_lo L80_ok c80 [] false (locate_nil _) (by kernel_rfl)
noncomputable def t80 (da db : Int) (cs : List (List AV)) (ws : List (List AV)) : Tr ((List (List AV))) :=
  .cn (decide (IntKind.i64.wrap (1 * 2 ^ min (↑ws.length : Int).toNat 64) = IntKind.i64.wrap (1 * 2 ^ min (↑ws.length : Int).toNat 64)) && (decide (0 ≤ IntKind.i64.wrap (1 * 2 ^ min (↑ws.length : Int).toNat 64)) && decide (IntKind.i64.wrap (1 * 2 ^ min (↑ws.length : Int).toNat 64) * (↑1 : Int) ≤ 140737488355328) && decide (IntKind.i64.wrap (1 * 2 ^ min (↑ws.length : Int).toNat 64) ≤ 9223372036854775807))) (.cn (i80a_0 ws da db cs (IntKind.i64.wrap (1 * 2 ^ min (↑ws.length : Int).toNat 64)).toNat 0 (List.replicate (IntKind.i64.wrap (1 * 2 ^ min (↑ws.length : Int).toNat 64)).toNat [AV.b false])) (.cn ((0 + (IntKind.i64.wrap (1 * 2 ^ min (↑ws.length : Int).toNat 64)).toNat).ble (v80a_0_m5 ws da db cs (IntKind.i64.wrap (1 * 2 ^ min (↑ws.length : Int).toNat 64)).toNat 0 (List.replicate (IntKind.i64.wrap (1 * 2 ^ min (↑ws.length : Int).toNat 64)).toNat [AV.b false])).length) (.lf (bif (IntKind.i64.wrap (1 * 2 ^ min (↑ws.length : Int).toNat 64)).toNat.beq (v80a_0_m5 ws da db cs (IntKind.i64.wrap (1 * 2 ^ min (↑ws.length : Int).toNat 64)).toNat 0 (List.replicate (IntKind.i64.wrap (1 * 2 ^ min (↑ws.length : Int).toNat 64)).toNat [AV.b false])).length then v80a_0_m5 ws da db cs (IntKind.i64.wrap (1 * 2 ^ min (↑ws.length : Int).toNat 64)).toNat 0 (List.replicate (IntKind.i64.wrap (1 * 2 ^ min (↑ws.length : Int).toNat 64)).toNat [AV.b false]) else List.take (IntKind.i64.wrap (1 * 2 ^ min (↑ws.length : Int).toNat 64)).toNat (List.drop 0 (v80a_0_m5 ws da db cs (IntKind.i64.wrap (1 * 2 ^ min (↑ws.length : Int).toNat 64)).toNat 0 (List.replicate (IntKind.i64.wrap (1 * 2 ^ min (↑ws.length : Int).toNat 64)).toNat [AV.b false]))))) (.nn)) (.nn)) (.nn)
noncomputable def g80 (da db : Int) (cs : List (List AV)) (ws : List (List AV)) : Bool := (t80 da db cs ws).g
noncomputable def w80_0 (da db : Int) (cs : List (List AV)) (ws : List (List AV)) : List (List AV) := (t80 da db cs ws).val
theorem eq80 (da db : Int) (cs : List (List AV)) (ws : List (List AV)) : evF Try.prog Sb (ro 80) L80 Try.f80 [.agg [.i .i64 da, .i .i64 db, .rs 64 cs], .rs 3 ws] = (t80 da db cs ws).opt (fun (x : (List (List AV))) => (.rs 4 x : AV)) := by kernel_rfl
theorem con80 (da db : Int) (cs : List (List AV)) (ws : List (List AV)) (h : g80 da db cs ws = true) : Con Try.prog 80 [.agg [.i .i64 da, .i .i64 db, .rs 64 cs], .rs 3 ws] [] (.rs 4 (w80_0 da db cs ws)) [] :=
  con_of Sb_ok mixed Try.func80 (c := c80) rfl (names 80 _ Try.func80) lok80 ((eq80 da db cs ws).trans (Tr.sound _ _ h))
noncomputable def e80 (args : List AV) (rows : List Blk) : Option (Bool × AV × List Blk) := match args, rows with
  | [.agg [.i .i64 da, .i .i64 db, .rs 64 cs], .rs 3 ws], [] => some (g80 da db cs ws, .rs 4 (w80_0 da db cs ws), [])
  | _, _ => none
theorem e80_ok (args : List AV) (rows : List Blk) (pre : Bool) (v : AV) (rows' : List Blk) (h : e80 args rows = some (pre, v, rows')) (hp : pre = true) : Con Try.prog 80 args rows v rows' := by
  unfold e80 at h
  split at h
  · cases h; exact con80 _ _ _ _ hp
  · cases h
-- SPEC 80
end Go.Proofs.Ytgifjphinkbcaaa

set_option maxRecDepth 100000
set_option linter.unusedVariables false
namespace Go.Proofs.Ytgifjphinkbcaaa
open Go Go.Ev

/-! ### strings.ContainsFunc -/
noncomputable def c84 : Code := match Try.f84.body with | some c => c | _ => .skip
theorem lok84 : LOK Try.prog Sc (ro 84) (fun _ _ => none) 0 false c84 [] :=
  lok_lo (fun _ _ _ _ _ _ _ h _ => by cases h) c84 [] false (locate_nil _) (by kernel_rfl)
noncomputable def t84 (nm : ByteArray) : Tr ((Bool)) :=
  .cn (g91 nm) (.lf (decide (w91_0 nm ≥ 0))) (.nn)
noncomputable def g84 (nm : ByteArray) : Bool := (t84 nm).g
noncomputable def w84_0 (nm : ByteArray) : Bool := (t84 nm).val
theorem eq84 (nm : ByteArray) : evF Try.prog Sc (ro 84) (fun _ _ => none) Try.f84 [.s nm, .fn 85 []] = (t84 nm).opt (fun (x : (Bool)) => (.b x : AV)) := by kernel_rfl
theorem con84 (nm : ByteArray) (h : g84 nm = true) : Con Try.prog 84 [.s nm, .fn 85 []] [] (.b (w84_0 nm)) [] :=
  con_of Sc_ok mixed Try.func84 (c := c84) rfl (names 84 _ Try.func84) lok84 ((eq84 nm).trans (Tr.sound _ _ h))
noncomputable def e84 (args : List AV) (rows : List Blk) : Option (Bool × AV × List Blk) := match args, rows with
  | [.s nm, .fn 85 []], [] => some (g84 nm, .b (w84_0 nm), [])
  | _, _ => none
theorem e84_ok (args : List AV) (rows : List Blk) (pre : Bool) (v : AV) (rows' : List Blk) (h : e84 args rows = some (pre, v, rows')) (hp : pre = true) : Con Try.prog 84 args rows v rows' := by
  unfold e84 at h
  split at h
  · cases h; exact con84 _ hp
  · cases h
-- SPEC 84
end Go.Proofs.Ytgifjphinkbcaaa

set_option maxRecDepth 100000
set_option linter.unusedVariables false
namespace Go.Proofs.Ytgifjphinkbcaaa
open Go Go.Ev

/-! ### ContainsFunc[int] -/
noncomputable def c53 : Code := match Try.f53.body with | some c => c | _ => .skip
theorem lok53 : LOK Try.prog Sc (ro 53) (fun _ _ => none) 0 false c53 [] :=
  lok_lo (fun _ _ _ _ _ _ _ h _ => by cases h) c53 [] false (locate_nil _) (by kernel_rfl)
noncomputable def t53 (xs : List (List AV)) : Tr ((Bool)) :=
  .cn (g73 xs) (.lf (decide (w73_0 xs ≥ 0))) (.nn)
noncomputable def g53 (xs : List (List AV)) : Bool := (t53 xs).g
noncomputable def w53_0 (xs : List (List AV)) : Bool := (t53 xs).val
theorem eq53 (xs : List (List AV)) : evF Try.prog Sc (ro 53) (fun _ _ => none) Try.f53 [.rs 3 xs, .fn 54 []] = (t53 xs).opt (fun (x : (Bool)) => (.b x : AV)) := by kernel_rfl
theorem con53 (xs : List (List AV)) (h : g53 xs = true) : Con Try.prog 53 [.rs 3 xs, .fn 54 []] [] (.b (w53_0 xs)) [] :=
  con_of Sc_ok mixed Try.func53 (c := c53) rfl (names 53 _ Try.func53) lok53 ((eq53 xs).trans (Tr.sound _ _ h))
noncomputable def e53 (args : List AV) (rows : List Blk) : Option (Bool × AV × List Blk) := match args, rows with
  | [.rs 3 xs, .fn 54 []], [] => some (g53 xs, .b (w53_0 xs), [])
  | _, _ => none
theorem e53_ok (args : List AV) (rows : List Blk) (pre : Bool) (v : AV) (rows' : List Blk) (h : e53 args rows = some (pre, v, rows')) (hp : pre = true) : Con Try.prog 53 args rows v rows' := by
  unfold e53 at h
  split at h
  · cases h; exact con53 _ hp
  · cases h
-- SPEC 53
end Go.Proofs.Ytgifjphinkbcaaa

set_option maxRecDepth 100000
set_option linter.unusedVariables false
namespace Go.Proofs.Ytgifjphinkbcaaa
open Go Go.Ev

/-! ### ridge.CheckRods -/
noncomputable def c24 : Code := match Try.f24.body with | some c => c | _ => .skip
noncomputable def lp24a : Code := loopAt c24 [true, true, true, false, true, false]
noncomputable def s24a (da : Int) (db : Int) (cs : List (List AV)) (t2 : Int) (t3 : Int) (t23 : List (List AV)) (t24 : Int) (t25 : Int) : St :=
  { t := [(1, .rp [.int .i64, .int .i64, .sl 64] [.i .i64 da, .i .i64 db, .rs 64 cs] 0), (2, .i .i64 t2), (3, .i .i64 t3), (23, .rs 64 t23), (24, .i .i64 t24), (25, .i .i64 t25)], m := [], nx := 0, nt := 52 }
structure S24a where
  t3 : Int
  t25 : Int
inductive T24a where
  | x0 (t2' : Int) (t3 : Int) (t25 : Int)
  | x1 (t3 : Int) (t25 : Int)
noncomputable def stp24a (da : Int) (db : Int) (cs : List (List AV)) (t2 : Int) (t23 : List (List AV)) (t24 : Int) (t3 : Int) (t25 : Int) : Lp S24a T24a :=
  cond (decide (t25 < t24)) (cond (inb t25 t23.length) (cond (g55 (fI (t23.getD t25.toNat []) 0) 1 100000) (cond (!w55_0 (fI (t23.getD t25.toNat []) 0) 1 100000) (.out (.x0 1 t3 t25)) (cond (g55 (fI (t23.getD t25.toNat []) 1) 0 12) (cond (!w55_0 (fI (t23.getD t25.toNat []) 1) 0 12) (.out (.x0 1 t3 t25)) (.go ⟨IntKind.i64.wrap (t3 + fI (t23.getD t25.toNat []) 1), IntKind.i64.wrap (t25 + 1)⟩)) (.bad))) (.bad)) (.bad)) (.out (.x1 t3 t25))
noncomputable def o24a_0 (da : Int) (db : Int) (cs : List (List AV)) (t2 : Int) (t23 : List (List AV)) (t24 : Int) (t2' : Int) (t3 : Int) (t25 : Int) : St :=
  { t := [(1, .rp [.int .i64, .int .i64, .sl 64] [.i .i64 da, .i .i64 db, .rs 64 cs] 0), (2, .i .i64 t2'), (3, .i .i64 t3), (23, .rs 64 t23), (24, .i .i64 t24), (25, .i .i64 t25)], m := [], nx := 0, nt := 52 }
noncomputable def o24a_1 (da : Int) (db : Int) (cs : List (List AV)) (t2 : Int) (t23 : List (List AV)) (t24 : Int) (t3 : Int) (t25 : Int) : St :=
  { t := [(1, .rp [.int .i64, .int .i64, .sl 64] [.i .i64 da, .i .i64 db, .rs 64 cs] 0), (2, .i .i64 t2), (3, .i .i64 t3), (23, .rs 64 t23), (24, .i .i64 t24), (25, .i .i64 t25)], m := [], nx := 0, nt := 52 }
noncomputable def ou24a (da : Int) (db : Int) (cs : List (List AV)) (t2 : Int) (t23 : List (List AV)) (t24 : Int) : T24a → Ex × St
  | .x0 t2' t3 t25 => (.ret, o24a_0 da db cs t2 t23 t24 t2' t3 t25)
  | .x1 t3 t25 => (.ext 1, o24a_1 da db cs t2 t23 t24 t3 t25)
noncomputable def r24a (da : Int) (db : Int) (cs : List (List AV)) (t2 : Int) (t23 : List (List AV)) (t24 : Int) (t3 : Int) (t25 : Int) : Option T24a := run (fun x => stp24a da db cs t2 t23 t24 x.t3 x.t25) (⟨t3, t25⟩ : S24a)
noncomputable def i24a_0 (da : Int) (db : Int) (cs : List (List AV)) (t2 : Int) (t23 : List (List AV)) (t24 : Int) (t3 : Int) (t25 : Int) : Bool := match r24a da db cs t2 t23 t24 t3 t25 with
  | some (.x0 _ _ _) => true
  | _ => false
noncomputable def v24a_0_t2' (da : Int) (db : Int) (cs : List (List AV)) (t2 : Int) (t23 : List (List AV)) (t24 : Int) (t3 : Int) (t25 : Int) : Int := match r24a da db cs t2 t23 t24 t3 t25 with
  | some (.x0 t2' _ _) => t2'
  | _ => default
noncomputable def v24a_0_t3 (da : Int) (db : Int) (cs : List (List AV)) (t2 : Int) (t23 : List (List AV)) (t24 : Int) (t3 : Int) (t25 : Int) : Int := match r24a da db cs t2 t23 t24 t3 t25 with
  | some (.x0 _ t3 _) => t3
  | _ => default
noncomputable def v24a_0_t25 (da : Int) (db : Int) (cs : List (List AV)) (t2 : Int) (t23 : List (List AV)) (t24 : Int) (t3 : Int) (t25 : Int) : Int := match r24a da db cs t2 t23 t24 t3 t25 with
  | some (.x0 _ _ t25) => t25
  | _ => default
noncomputable def i24a_1 (da : Int) (db : Int) (cs : List (List AV)) (t2 : Int) (t23 : List (List AV)) (t24 : Int) (t3 : Int) (t25 : Int) : Bool := match r24a da db cs t2 t23 t24 t3 t25 with
  | some (.x1 _ _) => true
  | _ => false
noncomputable def v24a_1_t3 (da : Int) (db : Int) (cs : List (List AV)) (t2 : Int) (t23 : List (List AV)) (t24 : Int) (t3 : Int) (t25 : Int) : Int := match r24a da db cs t2 t23 t24 t3 t25 with
  | some (.x1 t3 _) => t3
  | _ => default
noncomputable def v24a_1_t25 (da : Int) (db : Int) (cs : List (List AV)) (t2 : Int) (t23 : List (List AV)) (t24 : Int) (t3 : Int) (t25 : Int) : Int := match r24a da db cs t2 t23 t24 t3 t25 with
  | some (.x1 _ t25) => t25
  | _ => default
noncomputable def l24a (st : St) : Option (List (Bool × Ex × St)) := match normW Try.prog [(1, none), (2, none), (3, none), (23, none), (24, none), (25, none)] 0 st with
  | some ([.rp [.int .i64, .int .i64, .sl 64] [.i .i64 da, .i .i64 db, .rs 64 cs] 0, .i .i64 t2, .i .i64 t3, .rs 64 t23, .i .i64 t24, .i .i64 t25], [], 0, 52) => some [(i24a_0 da db cs t2 t23 t24 t3 t25, .ret, o24a_0 da db cs t2 t23 t24 (v24a_0_t2' da db cs t2 t23 t24 t3 t25) (v24a_0_t3 da db cs t2 t23 t24 t3 t25) (v24a_0_t25 da db cs t2 t23 t24 t3 t25)), (i24a_1 da db cs t2 t23 t24 t3 t25, .ext 1, o24a_1 da db cs t2 t23 t24 (v24a_1_t3 da db cs t2 t23 t24 t3 t25) (v24a_1_t25 da db cs t2 t23 t24 t3 t25))]
  | _ => none
noncomputable def L24 : LSpec := fun p st => match p with
  | [false, true, false, true, true, true] => l24a st
  | _ => none
theorem is24a_0 (da : Int) (db : Int) (cs : List (List AV)) (t2 : Int) (t23 : List (List AV)) (t24 : Int) (t3 : Int) (t25 : Int) (h : i24a_0 da db cs t2 t23 t24 t3 t25 = true) : r24a da db cs t2 t23 t24 t3 t25 = some (.x0 (v24a_0_t2' da db cs t2 t23 t24 t3 t25) (v24a_0_t3 da db cs t2 t23 t24 t3 t25) (v24a_0_t25 da db cs t2 t23 t24 t3 t25)) := by
  unfold i24a_0 at h
  unfold v24a_0_t2' v24a_0_t3 v24a_0_t25
  generalize r24a da db cs t2 t23 t24 t3 t25 = r at h ⊢
  rcases r with _ | y
  · cases h
  · cases y <;> first | rfl | cases h
theorem is24a_1 (da : Int) (db : Int) (cs : List (List AV)) (t2 : Int) (t23 : List (List AV)) (t24 : Int) (t3 : Int) (t25 : Int) (h : i24a_1 da db cs t2 t23 t24 t3 t25 = true) : r24a da db cs t2 t23 t24 t3 t25 = some (.x1 (v24a_1_t3 da db cs t2 t23 t24 t3 t25) (v24a_1_t25 da db cs t2 t23 t24 t3 t25)) := by
  unfold i24a_1 at h
  unfold v24a_1_t3 v24a_1_t25
  generalize r24a da db cs t2 t23 t24 t3 t25 = r at h ⊢
  rcases r with _ | y
  · cases h
  · cases y <;> first | rfl | cases h
theorem round24a (da : Int) (db : Int) (cs : List (List AV)) (t2 : Int) (t3 : Int) (t23 : List (List AV)) (t24 : Int) (t25 : Int) : round Try.prog Sc (ro 24) L24 lp24a [false, true, false, true, true, true] [(1, none), (2, none), (3, none), (23, none), (24, none), (25, none)] 0 (s24a da db cs t2 t3 t23 t24 t25) =
    cond (decide (t25 < t24)) (cond (inb t25 t23.length) (cond (g55 (fI (t23.getD t25.toNat []) 0) 1 100000) (cond (!w55_0 (fI (t23.getD t25.toNat []) 0) 1 100000) (some (.ret, o24a_0 da db cs t2 t23 t24 1 t3 t25)) (cond (g55 (fI (t23.getD t25.toNat []) 1) 0 12) (cond (!w55_0 (fI (t23.getD t25.toNat []) 1) 0 12) (some (.ret, o24a_0 da db cs t2 t23 t24 1 t3 t25)) (some (.nrm, s24a da db cs t2 (IntKind.i64.wrap (t3 + fI (t23.getD t25.toNat []) 1)) t23 t24 (IntKind.i64.wrap (t25 + 1))))) (none))) (none)) (none)) (some (.ext 1, o24a_1 da db cs t2 t23 t24 t3 t25)) := by kernel_rfl
theorem rnd24a (da : Int) (db : Int) (cs : List (List AV)) (t2 : Int) (t23 : List (List AV)) (t24 : Int) (x : S24a) : round Try.prog Sc (ro 24) L24 lp24a [false, true, false, true, true, true] [(1, none), (2, none), (3, none), (23, none), (24, none), (25, none)] 0 ((fun x => s24a da db cs t2 x.t3 t23 t24 x.t25) x) = toR (fun x => s24a da db cs t2 x.t3 t23 t24 x.t25) (ou24a da db cs t2 t23 t24) (stp24a da db cs t2 t23 t24 x.t3 x.t25) := by
  refine (round24a _ _ _ _ _ _ _ _ ).trans ?_
  unfold stp24a
  simp only [toR_cond]
  rfl
theorem lok24a {st : St} {outs : List (Bool × Ex × St)} {e : Ex} {s : St} (hl : l24a st = some outs) (hch : Chosen outs e s) :
    ∃ keep nb, 0 ≤ nb ∧ LB Try.prog Sc (ro 24) L24 lp24a [false, true, false, true, true, true] keep nb st e s := by
  unfold l24a at hl
  split at hl
  · rename_i da db cs t2 t3 t23 t24 t25 hno
    cases hl
    have hno := normW_norm hno
    refine ⟨_, _, ?_, .enter hno ?_⟩
    · decide
    have main := fun y h => LB_run (x := (⟨t3, t25⟩ : S24a)) (y := y) (nb := 0) (fun y => by cases y <;> simp [ou24a]) (rnd24a da db cs t2 t23 t24) h
    obtain ⟨x, hx, hg, rfl, rfl⟩ := chosen_any hch
    simp only [List.mem_cons, List.not_mem_nil, or_false] at hx
    rcases hx with rfl | rfl
    · exact main _ (is24a_0 da db cs t2 t23 t24 t3 t25 hg)
    · exact main _ (is24a_1 da db cs t2 t23 t24 t3 t25 hg)
  · cases hl
theorem L24_ok (q : Pl) (c : Code) (hq : locate c24 q.reverse = some (.loop c)) (st : St) (outs : List (Bool × Ex × St)) (e : Ex) (s : St) (hl : L24 q st = some outs) (hch : Chosen outs e s) :
    ∃ keep nb, 0 ≤ nb ∧ LB Try.prog Sc (ro 24) L24 c q keep nb st e s := by
  unfold L24 at hl
  split at hl
  · have : locate c24 ([false, true, false, true, true, true] : Pl).reverse = some (.loop lp24a) := by kernel_rfl
    rw [this] at hq
    cases hq
    exact lok24a hl hch
  · cases hl
theorem lok24 : LOK Try.prog Sc (ro 24) L24 0 false c24 [] :=
  lok_lo L24_ok c24 [] false (locate_nil _) (by kernel_rfl)
noncomputable def t24 (da db : Int) (cs : List (List AV)) : Tr ((Int)) :=
  .cn (g55 da 1 100000) (.cn (!w55_0 da 1 100000) (.lf (1)) (.cn (g55 db 0 100000) (.cn (!w55_0 db 0 100000) (.lf (1)) (.cn (decide ((↑cs.length : Int) > 8)) (.lf (3)) (.cn (i24a_0 da db cs 0 cs (↑cs.length : Int) 0 0) (.lf (v24a_0_t2' da db cs 0 cs (↑cs.length : Int) 0 0)) (.cn (i24a_1 da db cs 0 cs (↑cs.length : Int) 0 0) (.cn (decide (v24a_1_t3 da db cs 0 cs (↑cs.length : Int) 0 0 > 12)) (.lf (3)) (.cn (g59 cs da db cs) (.cn (w59_0 cs da db cs) (.lf (9)) (.lf (0))) (.nn))) (.nn))))) (.nn))) (.nn)
noncomputable def g24 (da db : Int) (cs : List (List AV)) : Bool := (t24 da db cs).g
noncomputable def w24_0 (da db : Int) (cs : List (List AV)) : Int := (t24 da db cs).val
theorem eq24 (da db : Int) (cs : List (List AV)) : evF Try.prog Sc (ro 24) L24 Try.f24 [.agg [.i .i64 da, .i .i64 db, .rs 64 cs]] = (t24 da db cs).opt (fun (x : (Int)) => (.i .i64 x : AV)) := by kernel_rfl
theorem con24 (da db : Int) (cs : List (List AV)) (h : g24 da db cs = true) : Con Try.prog 24 [.agg [.i .i64 da, .i .i64 db, .rs 64 cs]] [] (.i .i64 (w24_0 da db cs)) [] :=
  con_of Sc_ok mixed Try.func24 (c := c24) rfl (names 24 _ Try.func24) lok24 ((eq24 da db cs).trans (Tr.sound _ _ h))
noncomputable def e24 (args : List AV) (rows : List Blk) : Option (Bool × AV × List Blk) := match args, rows with
  | [.agg [.i .i64 da, .i .i64 db, .rs 64 cs]], [] => some (g24 da db cs, .i .i64 (w24_0 da db cs), [])
  | _, _ => none
theorem e24_ok (args : List AV) (rows : List Blk) (pre : Bool) (v : AV) (rows' : List Blk) (h : e24 args rows = some (pre, v, rows')) (hp : pre = true) : Con Try.prog 24 args rows v rows' := by
  unfold e24 at h
  split at h
  · cases h; exact con24 _ _ _ hp
  · cases h
-- SPEC 24
end Go.Proofs.Ytgifjphinkbcaaa

set_option maxRecDepth 100000
set_option linter.unusedVariables false
namespace Go.Proofs.Ytgifjphinkbcaaa
open Go Go.Ev

/-! ### ref.CheckRods -/
noncomputable def c25 : Code := match Try.f25.body with | some c => c | _ => .skip
noncomputable def lp25a : Code := loopAt c25 [true, true, true, true, false, true, false]
noncomputable def s25a (da : Int) (db : Int) (cs : List (List AV)) (t2 : Int) (t3 : Int) (t4 : Int) : St :=
  { t := [(1, .rp [.int .i64, .int .i64, .sl 64] [.i .i64 da, .i .i64 db, .rs 64 cs] 0), (2, .i .i64 t2), (3, .i .i64 t3), (4, .i .i64 t4)], m := [], nx := 0, nt := 71 }
structure S25a where
  t3 : Int
  t4 : Int
inductive T25a where
  | x0 (t2' : Int) (t3 : Int) (t4 : Int)
  | x1 (t3 : Int) (t4 : Int)
noncomputable def stp25a (da : Int) (db : Int) (cs : List (List AV)) (t2 : Int) (t3 : Int) (t4 : Int) : Lp S25a T25a :=
  cond (decide (t4 < (↑cs.length : Int))) (cond (inb t4 cs.length) (cond (g57 (fI (cs.getD t4.toNat []) 0) 1 100000) (cond (!w57_0 (fI (cs.getD t4.toNat []) 0) 1 100000) (.out (.x0 1 t3 t4)) (cond (inb t4 cs.length) (cond (g57 (fI (cs.getD t4.toNat []) 1) 0 12) (cond (!w57_0 (fI (cs.getD t4.toNat []) 1) 0 12) (.out (.x0 1 t3 t4)) (cond (inb t4 cs.length) (.go ⟨IntKind.i64.wrap (t3 + fI (cs.getD t4.toNat []) 1), IntKind.i64.wrap (t4 + 1)⟩) (.bad))) (.bad)) (.bad))) (.bad)) (.bad)) (.out (.x1 t3 t4))
noncomputable def o25a_0 (da : Int) (db : Int) (cs : List (List AV)) (t2 : Int) (t2' : Int) (t3 : Int) (t4 : Int) : St :=
  { t := [(1, .rp [.int .i64, .int .i64, .sl 64] [.i .i64 da, .i .i64 db, .rs 64 cs] 0), (2, .i .i64 t2'), (3, .i .i64 t3), (4, .i .i64 t4)], m := [], nx := 0, nt := 71 }
noncomputable def o25a_1 (da : Int) (db : Int) (cs : List (List AV)) (t2 : Int) (t3 : Int) (t4 : Int) : St :=
  { t := [(1, .rp [.int .i64, .int .i64, .sl 64] [.i .i64 da, .i .i64 db, .rs 64 cs] 0), (2, .i .i64 t2), (3, .i .i64 t3), (4, .i .i64 t4)], m := [], nx := 0, nt := 71 }
noncomputable def ou25a (da : Int) (db : Int) (cs : List (List AV)) (t2 : Int) : T25a → Ex × St
  | .x0 t2' t3 t4 => (.ret, o25a_0 da db cs t2 t2' t3 t4)
  | .x1 t3 t4 => (.ext 0, o25a_1 da db cs t2 t3 t4)
noncomputable def r25a (da : Int) (db : Int) (cs : List (List AV)) (t2 : Int) (t3 : Int) (t4 : Int) : Option T25a := run (fun x => stp25a da db cs t2 x.t3 x.t4) (⟨t3, t4⟩ : S25a)
noncomputable def i25a_0 (da : Int) (db : Int) (cs : List (List AV)) (t2 : Int) (t3 : Int) (t4 : Int) : Bool := match r25a da db cs t2 t3 t4 with
  | some (.x0 _ _ _) => true
  | _ => false
noncomputable def v25a_0_t2' (da : Int) (db : Int) (cs : List (List AV)) (t2 : Int) (t3 : Int) (t4 : Int) : Int := match r25a da db cs t2 t3 t4 with
  | some (.x0 t2' _ _) => t2'
  | _ => default
noncomputable def v25a_0_t3 (da : Int) (db : Int) (cs : List (List AV)) (t2 : Int) (t3 : Int) (t4 : Int) : Int := match r25a da db cs t2 t3 t4 with
  | some (.x0 _ t3 _) => t3
  | _ => default
noncomputable def v25a_0_t4 (da : Int) (db : Int) (cs : List (List AV)) (t2 : Int) (t3 : Int) (t4 : Int) : Int := match r25a da db cs t2 t3 t4 with
  | some (.x0 _ _ t4) => t4
  | _ => default
noncomputable def i25a_1 (da : Int) (db : Int) (cs : List (List AV)) (t2 : Int) (t3 : Int) (t4 : Int) : Bool := match r25a da db cs t2 t3 t4 with
  | some (.x1 _ _) => true
  | _ => false
noncomputable def v25a_1_t3 (da : Int) (db : Int) (cs : List (List AV)) (t2 : Int) (t3 : Int) (t4 : Int) : Int := match r25a da db cs t2 t3 t4 with
  | some (.x1 t3 _) => t3
  | _ => default
noncomputable def v25a_1_t4 (da : Int) (db : Int) (cs : List (List AV)) (t2 : Int) (t3 : Int) (t4 : Int) : Int := match r25a da db cs t2 t3 t4 with
  | some (.x1 _ t4) => t4
  | _ => default
noncomputable def l25a (st : St) : Option (List (Bool × Ex × St)) := match normW Try.prog [(1, none), (2, none), (3, none), (4, none)] 0 st with
  | some ([.rp [.int .i64, .int .i64, .sl 64] [.i .i64 da, .i .i64 db, .rs 64 cs] 0, .i .i64 t2, .i .i64 t3, .i .i64 t4], [], 0, 71) => some [(i25a_0 da db cs t2 t3 t4, .ret, o25a_0 da db cs t2 (v25a_0_t2' da db cs t2 t3 t4) (v25a_0_t3 da db cs t2 t3 t4) (v25a_0_t4 da db cs t2 t3 t4)), (i25a_1 da db cs t2 t3 t4, .ext 0, o25a_1 da db cs t2 (v25a_1_t3 da db cs t2 t3 t4) (v25a_1_t4 da db cs t2 t3 t4))]
  | _ => none
noncomputable def lp25b : Code := loopAt c25 [true, true, true, true, true, true, false, true, false]
noncomputable def s25b (da : Int) (db : Int) (cs : List (List AV)) (t2 : Int) (t5 : Int) : St :=
  { t := [(1, .rp [.int .i64, .int .i64, .sl 64] [.i .i64 da, .i .i64 db, .rs 64 cs] 0), (2, .i .i64 t2), (5, .i .i64 t5)], m := [], nx := 0, nt := 71 }
structure S25b where
  t5 : Int
inductive T25b where
  | x0 (t2' : Int) (t5 : Int)
  | x1 (t5 : Int)
noncomputable def stp25b (da : Int) (db : Int) (cs : List (List AV)) (t2 : Int) (t5 : Int) : Lp S25b T25b :=
  cond (decide (t5 < (↑cs.length : Int))) (cond (inb t5 cs.length) (cond (decide (fI (cs.getD t5.toNat []) 0 > da)) (.out (.x0 9 t5)) (.go ⟨IntKind.i64.wrap (t5 + 1)⟩)) (.bad)) (.out (.x1 t5))
noncomputable def o25b_0 (da : Int) (db : Int) (cs : List (List AV)) (t2 : Int) (t2' : Int) (t5 : Int) : St :=
  { t := [(1, .rp [.int .i64, .int .i64, .sl 64] [.i .i64 da, .i .i64 db, .rs 64 cs] 0), (2, .i .i64 t2'), (5, .i .i64 t5)], m := [], nx := 0, nt := 71 }
noncomputable def o25b_1 (da : Int) (db : Int) (cs : List (List AV)) (t2 : Int) (t5 : Int) : St :=
  { t := [(1, .rp [.int .i64, .int .i64, .sl 64] [.i .i64 da, .i .i64 db, .rs 64 cs] 0), (2, .i .i64 t2), (5, .i .i64 t5)], m := [], nx := 0, nt := 71 }
noncomputable def ou25b (da : Int) (db : Int) (cs : List (List AV)) (t2 : Int) : T25b → Ex × St
  | .x0 t2' t5 => (.ret, o25b_0 da db cs t2 t2' t5)
  | .x1 t5 => (.ext 2, o25b_1 da db cs t2 t5)
noncomputable def r25b (da : Int) (db : Int) (cs : List (List AV)) (t2 : Int) (t5 : Int) : Option T25b := run (fun x => stp25b da db cs t2 x.t5) (⟨t5⟩ : S25b)
noncomputable def i25b_0 (da : Int) (db : Int) (cs : List (List AV)) (t2 : Int) (t5 : Int) : Bool := match r25b da db cs t2 t5 with
  | some (.x0 _ _) => true
  | _ => false
noncomputable def v25b_0_t2' (da : Int) (db : Int) (cs : List (List AV)) (t2 : Int) (t5 : Int) : Int := match r25b da db cs t2 t5 with
  | some (.x0 t2' _) => t2'
  | _ => default
noncomputable def v25b_0_t5 (da : Int) (db : Int) (cs : List (List AV)) (t2 : Int) (t5 : Int) : Int := match r25b da db cs t2 t5 with
  | some (.x0 _ t5) => t5
  | _ => default
noncomputable def i25b_1 (da : Int) (db : Int) (cs : List (List AV)) (t2 : Int) (t5 : Int) : Bool := match r25b da db cs t2 t5 with
  | some (.x1 _) => true
  | _ => false
noncomputable def v25b_1_t5 (da : Int) (db : Int) (cs : List (List AV)) (t2 : Int) (t5 : Int) : Int := match r25b da db cs t2 t5 with
  | some (.x1 t5) => t5
  | _ => default
noncomputable def l25b (st : St) : Option (List (Bool × Ex × St)) := match normW Try.prog [(1, none), (2, none), (5, none)] 0 st with
  | some ([.rp [.int .i64, .int .i64, .sl 64] [.i .i64 da, .i .i64 db, .rs 64 cs] 0, .i .i64 t2, .i .i64 t5], [], 0, 71) => some [(i25b_0 da db cs t2 t5, .ret, o25b_0 da db cs t2 (v25b_0_t2' da db cs t2 t5) (v25b_0_t5 da db cs t2 t5)), (i25b_1 da db cs t2 t5, .ext 2, o25b_1 da db cs t2 (v25b_1_t5 da db cs t2 t5))]
  | _ => none
noncomputable def L25 : LSpec := fun p st => match p with
  | [false, true, false, true, true, true, true] => l25a st
  | [false, true, false, true, true, true, true, true, true] => l25b st
  | _ => none
theorem is25a_0 (da : Int) (db : Int) (cs : List (List AV)) (t2 : Int) (t3 : Int) (t4 : Int) (h : i25a_0 da db cs t2 t3 t4 = true) : r25a da db cs t2 t3 t4 = some (.x0 (v25a_0_t2' da db cs t2 t3 t4) (v25a_0_t3 da db cs t2 t3 t4) (v25a_0_t4 da db cs t2 t3 t4)) := by
  unfold i25a_0 at h
  unfold v25a_0_t2' v25a_0_t3 v25a_0_t4
  generalize r25a da db cs t2 t3 t4 = r at h ⊢
  rcases r with _ | y
  · cases h
  · cases y <;> first | rfl | cases h
theorem is25a_1 (da : Int) (db : Int) (cs : List (List AV)) (t2 : Int) (t3 : Int) (t4 : Int) (h : i25a_1 da db cs t2 t3 t4 = true) : r25a da db cs t2 t3 t4 = some (.x1 (v25a_1_t3 da db cs t2 t3 t4) (v25a_1_t4 da db cs t2 t3 t4)) := by
  unfold i25a_1 at h
  unfold v25a_1_t3 v25a_1_t4
  generalize r25a da db cs t2 t3 t4 = r at h ⊢
  rcases r with _ | y
  · cases h
  · cases y <;> first | rfl | cases h
theorem round25a (da : Int) (db : Int) (cs : List (List AV)) (t2 : Int) (t3 : Int) (t4 : Int) : round Try.prog Sc (ro 25) L25 lp25a [false, true, false, true, true, true, true] [(1, none), (2, none), (3, none), (4, none)] 0 (s25a da db cs t2 t3 t4) =
    cond (decide (t4 < (↑cs.length : Int))) (cond (inb t4 cs.length) (cond (g57 (fI (cs.getD t4.toNat []) 0) 1 100000) (cond (!w57_0 (fI (cs.getD t4.toNat []) 0) 1 100000) (some (.ret, o25a_0 da db cs t2 1 t3 t4)) (cond (inb t4 cs.length) (cond (g57 (fI (cs.getD t4.toNat []) 1) 0 12) (cond (!w57_0 (fI (cs.getD t4.toNat []) 1) 0 12) (some (.ret, o25a_0 da db cs t2 1 t3 t4)) (cond (inb t4 cs.length) (some (.nrm, s25a da db cs t2 (IntKind.i64.wrap (t3 + fI (cs.getD t4.toNat []) 1)) (IntKind.i64.wrap (t4 + 1)))) (none))) (none)) (none))) (none)) (none)) (some (.ext 0, o25a_1 da db cs t2 t3 t4)) := by kernel_rfl
theorem rnd25a (da : Int) (db : Int) (cs : List (List AV)) (t2 : Int) (x : S25a) : round Try.prog Sc (ro 25) L25 lp25a [false, true, false, true, true, true, true] [(1, none), (2, none), (3, none), (4, none)] 0 ((fun x => s25a da db cs t2 x.t3 x.t4) x) = toR (fun x => s25a da db cs t2 x.t3 x.t4) (ou25a da db cs t2) (stp25a da db cs t2 x.t3 x.t4) := by
  refine (round25a _ _ _ _ _ _ ).trans ?_
  unfold stp25a
  simp only [toR_cond]
  rfl
theorem lok25a {st : St} {outs : List (Bool × Ex × St)} {e : Ex} {s : St} (hl : l25a st = some outs) (hch : Chosen outs e s) :
    ∃ keep nb, 0 ≤ nb ∧ LB Try.prog Sc (ro 25) L25 lp25a [false, true, false, true, true, true, true] keep nb st e s := by
  unfold l25a at hl
  split at hl
  · rename_i da db cs t2 t3 t4 hno
    cases hl
    have hno := normW_norm hno
    refine ⟨_, _, ?_, .enter hno ?_⟩
    · decide
    have main := fun y h => LB_run (x := (⟨t3, t4⟩ : S25a)) (y := y) (nb := 0) (fun y => by cases y <;> simp [ou25a]) (rnd25a da db cs t2) h
    obtain ⟨x, hx, hg, rfl, rfl⟩ := chosen_any hch
    simp only [List.mem_cons, List.not_mem_nil, or_false] at hx
    rcases hx with rfl | rfl
    · exact main _ (is25a_0 da db cs t2 t3 t4 hg)
    · exact main _ (is25a_1 da db cs t2 t3 t4 hg)
  · cases hl
theorem is25b_0 (da : Int) (db : Int) (cs : List (List AV)) (t2 : Int) (t5 : Int) (h : i25b_0 da db cs t2 t5 = true) : r25b da db cs t2 t5 = some (.x0 (v25b_0_t2' da db cs t2 t5) (v25b_0_t5 da db cs t2 t5)) := by
  unfold i25b_0 at h
  unfold v25b_0_t2' v25b_0_t5
  generalize r25b da db cs t2 t5 = r at h ⊢
  rcases r with _ | y
  · cases h
  · cases y <;> first | rfl | cases h
theorem is25b_1 (da : Int) (db : Int) (cs : List (List AV)) (t2 : Int) (t5 : Int) (h : i25b_1 da db cs t2 t5 = true) : r25b da db cs t2 t5 = some (.x1 (v25b_1_t5 da db cs t2 t5)) := by
  unfold i25b_1 at h
  unfold v25b_1_t5
  generalize r25b da db cs t2 t5 = r at h ⊢
  rcases r with _ | y
  · cases h
  · cases y <;> first | rfl | cases h
theorem round25b (da : Int) (db : Int) (cs : List (List AV)) (t2 : Int) (t5 : Int) : round Try.prog Sc (ro 25) L25 lp25b [false, true, false, true, true, true, true, true, true] [(1, none), (2, none), (5, none)] 0 (s25b da db cs t2 t5) =
    cond (decide (t5 < (↑cs.length : Int))) (cond (inb t5 cs.length) (cond (decide (fI (cs.getD t5.toNat []) 0 > da)) (some (.ret, o25b_0 da db cs t2 9 t5)) (some (.nrm, s25b da db cs t2 (IntKind.i64.wrap (t5 + 1))))) (none)) (some (.ext 2, o25b_1 da db cs t2 t5)) := by kernel_rfl
theorem rnd25b (da : Int) (db : Int) (cs : List (List AV)) (t2 : Int) (x : S25b) : round Try.prog Sc (ro 25) L25 lp25b [false, true, false, true, true, true, true, true, true] [(1, none), (2, none), (5, none)] 0 ((fun x => s25b da db cs t2 x.t5) x) = toR (fun x => s25b da db cs t2 x.t5) (ou25b da db cs t2) (stp25b da db cs t2 x.t5) := by
  refine (round25b _ _ _ _ _ ).trans ?_
  unfold stp25b
  simp only [toR_cond]
  rfl
theorem lok25b {st : St} {outs : List (Bool × Ex × St)} {e : Ex} {s : St} (hl : l25b st = some outs) (hch : Chosen outs e s) :
    ∃ keep nb, 0 ≤ nb ∧ LB Try.prog Sc (ro 25) L25 lp25b [false, true, false, true, true, true, true, true, true] keep nb st e s := by
  unfold l25b at hl
  split at hl
  · rename_i da db cs t2 t5 hno
    cases hl
    have hno := normW_norm hno
    refine ⟨_, _, ?_, .enter hno ?_⟩
    · decide
    have main := fun y h => LB_run (x := (⟨t5⟩ : S25b)) (y := y) (nb := 0) (fun y => by cases y <;> simp [ou25b]) (rnd25b da db cs t2) h
    obtain ⟨x, hx, hg, rfl, rfl⟩ := chosen_any hch
    simp only [List.mem_cons, List.not_mem_nil, or_false] at hx
    rcases hx with rfl | rfl
    · exact main _ (is25b_0 da db cs t2 t5 hg)
    · exact main _ (is25b_1 da db cs t2 t5 hg)
  · cases hl
theorem L25_ok (q : Pl) (c : Code) (hq : locate c25 q.reverse = some (.loop c)) (st : St) (outs : List (Bool × Ex × St)) (e : Ex) (s : St) (hl : L25 q st = some outs) (hch : Chosen outs e s) :
    ∃ keep nb, 0 ≤ nb ∧ LB Try.prog Sc (ro 25) L25 c q keep nb st e s := by
  unfold L25 at hl
  split at hl
  · have : locate c25 ([false, true, false, true, true, true, true] : Pl).reverse = some (.loop lp25a) := by kernel_rfl
    rw [this] at hq
    cases hq
    exact lok25a hl hch
  · have : locate c25 ([false, true, false, true, true, true, true, true, true] : Pl).reverse = some (.loop lp25b) := by kernel_rfl
    rw [this] at hq
    cases hq
    exact lok25b hl hch
  · cases hl
theorem lok25 : LOK Try.prog Sc (ro 25) L25 0 false c25 [] :=
  lok_lo L25_ok c25 [] false (locate_nil _) (by kernel_rfl)
noncomputable def t25 (da db : Int) (cs : List (List AV)) : Tr ((Int)) :=
  .cn (g57 da 1 100000) (.cn (!w57_0 da 1 100000) (.lf (1)) (.cn (g57 db 0 100000) (.cn (!w57_0 db 0 100000) (.lf (1)) (.cn (decide ((↑cs.length : Int) > 8)) (.lf (3)) (.cn (i25a_0 da db cs 0 0 0) (.lf (v25a_0_t2' da db cs 0 0 0)) (.cn (i25a_1 da db cs 0 0 0) (.cn (decide (v25a_1_t3 da db cs 0 0 0 > 12)) (.lf (3)) (.cn (i25b_0 da db cs 0 0) (.lf (v25b_0_t2' da db cs 0 0)) (.cn (i25b_1 da db cs 0 0) (.lf (0)) (.nn)))) (.nn))))) (.nn))) (.nn)
noncomputable def g25 (da db : Int) (cs : List (List AV)) : Bool := (t25 da db cs).g
noncomputable def w25_0 (da db : Int) (cs : List (List AV)) : Int := (t25 da db cs).val
theorem eq25 (da db : Int) (cs : List (List AV)) : evF Try.prog Sc (ro 25) L25 Try.f25 [.agg [.i .i64 da, .i .i64 db, .rs 64 cs]] = (t25 da db cs).opt (fun (x : (Int)) => (.i .i64 x : AV)) := by kernel_rfl
theorem con25 (da db : Int) (cs : List (List AV)) (h : g25 da db cs = true) : Con Try.prog 25 [.agg [.i .i64 da, .i .i64 db, .rs 64 cs]] [] (.i .i64 (w25_0 da db cs)) [] :=
  con_of Sc_ok mixed Try.func25 (c := c25) rfl (names 25 _ Try.func25) lok25 ((eq25 da db cs).trans (Tr.sound _ _ h))
noncomputable def e25 (args : List AV) (rows : List Blk) : Option (Bool × AV × List Blk) := match args, rows with
  | [.agg [.i .i64 da, .i .i64 db, .rs 64 cs]], [] => some (g25 da db cs, .i .i64 (w25_0 da db cs), [])
  | _, _ => none
theorem e25_ok (args : List AV) (rows : List Blk) (pre : Bool) (v : AV) (rows' : List Blk) (h : e25 args rows = some (pre, v, rows')) (hp : pre = true) : Con Try.prog 25 args rows v rows' := by
  unfold e25 at h
  split at h
  · cases h; exact con25 _ _ _ hp
  · cases h
-- SPEC 25
end Go.Proofs.Ytgifjphinkbcaaa

set_option maxRecDepth 100000
set_option linter.unusedVariables false
namespace Go.Proofs.Ytgifjphinkbcaaa
open Go Go.Ev
noncomputable def Sd : Ev.Spec := insS 25 e25 (insS 24 e24 (insS 53 e53 (insS 84 e84 (insS 80 e80 (Sc)))))
theorem Sd_ok : SpecOK Try.prog Sd := insS_ok e25_ok (insS_ok e24_ok (insS_ok e53_ok (insS_ok e84_ok (insS_ok e80_ok (Sc_ok)))))
end Go.Proofs.Ytgifjphinkbcaaa

set_option maxRecDepth 100000
set_option linter.unusedVariables false
namespace Go.Proofs.Ytgifjphinkbcaaa
open Go Go.Ev

/-! ### isName -/
noncomputable def c61 : Code := match Try.f61.body with | some c => c | _ => .skip
theorem lok61 : LOK Try.prog Sd (ro 61) (fun _ _ => none) 0 false c61 [] :=
  lok_lo (fun _ _ _ _ _ _ _ h _ => by cases h) c61 [] false (locate_nil _) (by kernel_rfl)
noncomputable def t61 (nm : ByteArray) : Tr ((Bool)) :=
  .cn (nm.toList == (⟨#[]⟩ : ByteArray).toList) (.lf (false)) (.cn (decide ((↑nm.size : Int) > 16)) (.lf (false)) (.cn (inb 0 nm.size) (.cn (decide ((↑(nm.data.toList.getD 0 0).toNat : Int) < 97)) (.lf (false)) (.cn (inb 0 nm.size) (.cn (decide ((↑(nm.data.toList.getD 0 0).toNat : Int) > 122)) (.lf (false)) (.cn (g84 nm) (.lf (!w84_0 nm)) (.nn))) (.nn))) (.nn)))
noncomputable def g61 (nm : ByteArray) : Bool := (t61 nm).g
noncomputable def w61_0 (nm : ByteArray) : Bool := (t61 nm).val
theorem eq61 (nm : ByteArray) : evF Try.prog Sd (ro 61) (fun _ _ => none) Try.f61 [.s nm] = (t61 nm).opt (fun (x : (Bool)) => (.b x : AV)) := by kernel_rfl
theorem con61 (nm : ByteArray) (h : g61 nm = true) : Con Try.prog 61 [.s nm] [] (.b (w61_0 nm)) [] :=
  con_of Sd_ok mixed Try.func61 (c := c61) rfl (names 61 _ Try.func61) lok61 ((eq61 nm).trans (Tr.sound _ _ h))
noncomputable def e61 (args : List AV) (rows : List Blk) : Option (Bool × AV × List Blk) := match args, rows with
  | [.s nm], [] => some (g61 nm, .b (w61_0 nm), [])
  | _, _ => none
theorem e61_ok (args : List AV) (rows : List Blk) (pre : Bool) (v : AV) (rows' : List Blk) (h : e61 args rows = some (pre, v, rows')) (hp : pre = true) : Con Try.prog 61 args rows v rows' := by
  unfold e61 at h
  split at h
  · cases h; exact con61 _ hp
  · cases h
-- SPEC 61
end Go.Proofs.Ytgifjphinkbcaaa

set_option maxRecDepth 100000
set_option linter.unusedVariables false
namespace Go.Proofs.Ytgifjphinkbcaaa
open Go Go.Ev

/-! ### ref01.Name -/
noncomputable def c66 : Code := match Try.f66.body with | some c => c | _ => .skip
noncomputable def lp66a : Code := loopAt c66 [true, true, false, true, false]
noncomputable def s66a (nm : ByteArray) (t2 : Bool) (t3 : Int) : St :=
  { t := [(0, .s nm), (2, .b t2), (3, .i .i64 t3)], m := [], nx := 0, nt := 46 }
structure S66a where
  t3 : Int
inductive T66a where
  | x0 (t2' : Bool) (t3 : Int)
  | x1 (t3 : Int)
noncomputable def stp66a (nm : ByteArray) (t2 : Bool) (t3 : Int) : Lp S66a T66a :=
  cond (decide (t3 < (↑nm.size : Int))) (cond (inb t3 nm.size) (cond (decide ((↑(nm.data.toList.getD t3.toNat 0).toNat : Int) < 97)) (cond (decide ((↑(nm.data.toList.getD t3.toNat 0).toNat : Int) < 48)) (cond ((↑(nm.data.toList.getD t3.toNat 0).toNat : Int) != 45) (.out (.x0 false t3)) (.go ⟨IntKind.i64.wrap (t3 + 1)⟩)) (cond (decide ((↑(nm.data.toList.getD t3.toNat 0).toNat : Int) > 57)) (cond ((↑(nm.data.toList.getD t3.toNat 0).toNat : Int) != 45) (.out (.x0 false t3)) (.go ⟨IntKind.i64.wrap (t3 + 1)⟩)) (.go ⟨IntKind.i64.wrap (t3 + 1)⟩))) (cond (decide ((↑(nm.data.toList.getD t3.toNat 0).toNat : Int) > 122)) (cond (decide ((↑(nm.data.toList.getD t3.toNat 0).toNat : Int) < 48)) (cond ((↑(nm.data.toList.getD t3.toNat 0).toNat : Int) != 45) (.out (.x0 false t3)) (.go ⟨IntKind.i64.wrap (t3 + 1)⟩)) (cond (decide ((↑(nm.data.toList.getD t3.toNat 0).toNat : Int) > 57)) (cond ((↑(nm.data.toList.getD t3.toNat 0).toNat : Int) != 45) (.out (.x0 false t3)) (.go ⟨IntKind.i64.wrap (t3 + 1)⟩)) (.go ⟨IntKind.i64.wrap (t3 + 1)⟩))) (.go ⟨IntKind.i64.wrap (t3 + 1)⟩))) (.bad)) (.out (.x1 t3))
noncomputable def o66a_0 (nm : ByteArray) (t2 : Bool) (t2' : Bool) (t3 : Int) : St :=
  { t := [(0, .s nm), (2, .b t2'), (3, .i .i64 t3)], m := [], nx := 0, nt := 46 }
noncomputable def o66a_1 (nm : ByteArray) (t2 : Bool) (t3 : Int) : St :=
  { t := [(0, .s nm), (2, .b t2), (3, .i .i64 t3)], m := [], nx := 0, nt := 46 }
noncomputable def ou66a (nm : ByteArray) (t2 : Bool) : T66a → Ex × St
  | .x0 t2' t3 => (.ret, o66a_0 nm t2 t2' t3)
  | .x1 t3 => (.ext 0, o66a_1 nm t2 t3)
noncomputable def r66a (nm : ByteArray) (t2 : Bool) (t3 : Int) : Option T66a := run (fun x => stp66a nm t2 x.t3) (⟨t3⟩ : S66a)
noncomputable def i66a_0 (nm : ByteArray) (t2 : Bool) (t3 : Int) : Bool := match r66a nm t2 t3 with
  | some (.x0 _ _) => true
  | _ => false
noncomputable def v66a_0_t2' (nm : ByteArray) (t2 : Bool) (t3 : Int) : Bool := match r66a nm t2 t3 with
  | some (.x0 t2' _) => t2'
  | _ => default
noncomputable def v66a_0_t3 (nm : ByteArray) (t2 : Bool) (t3 : Int) : Int := match r66a nm t2 t3 with
  | some (.x0 _ t3) => t3
  | _ => default
noncomputable def i66a_1 (nm : ByteArray) (t2 : Bool) (t3 : Int) : Bool := match r66a nm t2 t3 with
  | some (.x1 _) => true
  | _ => false
noncomputable def v66a_1_t3 (nm : ByteArray) (t2 : Bool) (t3 : Int) : Int := match r66a nm t2 t3 with
  | some (.x1 t3) => t3
  | _ => default
noncomputable def l66a (st : St) : Option (List (Bool × Ex × St)) := match normW Try.prog [(0, none), (2, none), (3, none)] 0 st with
  | some ([.s nm, .b t2, .i .i64 t3], [], 0, 46) => some [(i66a_0 nm t2 t3, .ret, o66a_0 nm t2 (v66a_0_t2' nm t2 t3) (v66a_0_t3 nm t2 t3)), (i66a_1 nm t2 t3, .ext 0, o66a_1 nm t2 (v66a_1_t3 nm t2 t3))]
  | _ => none
noncomputable def L66 : LSpec := fun p st => match p with
  | [false, true, false, true, true] => l66a st
  | _ => none
theorem is66a_0 (nm : ByteArray) (t2 : Bool) (t3 : Int) (h : i66a_0 nm t2 t3 = true) : r66a nm t2 t3 = some (.x0 (v66a_0_t2' nm t2 t3) (v66a_0_t3 nm t2 t3)) := by
  unfold i66a_0 at h
  unfold v66a_0_t2' v66a_0_t3
  generalize r66a nm t2 t3 = r at h ⊢
  rcases r with _ | y
  · cases h
  · cases y <;> first | rfl | cases h
theorem is66a_1 (nm : ByteArray) (t2 : Bool) (t3 : Int) (h : i66a_1 nm t2 t3 = true) : r66a nm t2 t3 = some (.x1 (v66a_1_t3 nm t2 t3)) := by
  unfold i66a_1 at h
  unfold v66a_1_t3
  generalize r66a nm t2 t3 = r at h ⊢
  rcases r with _ | y
  · cases h
  · cases y <;> first | rfl | cases h
theorem round66a (nm : ByteArray) (t2 : Bool) (t3 : Int) : round Try.prog Sd (ro 66) L66 lp66a [false, true, false, true, true] [(0, none), (2, none), (3, none)] 0 (s66a nm t2 t3) =
    cond (decide (t3 < (↑nm.size : Int))) (cond (inb t3 nm.size) (cond (decide ((↑(nm.data.toList.getD t3.toNat 0).toNat : Int) < 97)) (cond (decide ((↑(nm.data.toList.getD t3.toNat 0).toNat : Int) < 48)) (cond ((↑(nm.data.toList.getD t3.toNat 0).toNat : Int) != 45) (some (.ret, o66a_0 nm t2 false t3)) (some (.nrm, s66a nm t2 (IntKind.i64.wrap (t3 + 1))))) (cond (decide ((↑(nm.data.toList.getD t3.toNat 0).toNat : Int) > 57)) (cond ((↑(nm.data.toList.getD t3.toNat 0).toNat : Int) != 45) (some (.ret, o66a_0 nm t2 false t3)) (some (.nrm, s66a nm t2 (IntKind.i64.wrap (t3 + 1))))) (some (.nrm, s66a nm t2 (IntKind.i64.wrap (t3 + 1)))))) (cond (decide ((↑(nm.data.toList.getD t3.toNat 0).toNat : Int) > 122)) (cond (decide ((↑(nm.data.toList.getD t3.toNat 0).toNat : Int) < 48)) (cond ((↑(nm.data.toList.getD t3.toNat 0).toNat : Int) != 45) (some (.ret, o66a_0 nm t2 false t3)) (some (.nrm, s66a nm t2 (IntKind.i64.wrap (t3 + 1))))) (cond (decide ((↑(nm.data.toList.getD t3.toNat 0).toNat : Int) > 57)) (cond ((↑(nm.data.toList.getD t3.toNat 0).toNat : Int) != 45) (some (.ret, o66a_0 nm t2 false t3)) (some (.nrm, s66a nm t2 (IntKind.i64.wrap (t3 + 1))))) (some (.nrm, s66a nm t2 (IntKind.i64.wrap (t3 + 1)))))) (some (.nrm, s66a nm t2 (IntKind.i64.wrap (t3 + 1)))))) (none)) (some (.ext 0, o66a_1 nm t2 t3)) := by kernel_rfl
theorem rnd66a (nm : ByteArray) (t2 : Bool) (x : S66a) : round Try.prog Sd (ro 66) L66 lp66a [false, true, false, true, true] [(0, none), (2, none), (3, none)] 0 ((fun x => s66a nm t2 x.t3) x) = toR (fun x => s66a nm t2 x.t3) (ou66a nm t2) (stp66a nm t2 x.t3) := by
  refine (round66a _ _ _ ).trans ?_
  unfold stp66a
  simp only [toR_cond]
  rfl
theorem lok66a {st : St} {outs : List (Bool × Ex × St)} {e : Ex} {s : St} (hl : l66a st = some outs) (hch : Chosen outs e s) :
    ∃ keep nb, 0 ≤ nb ∧ LB Try.prog Sd (ro 66) L66 lp66a [false, true, false, true, true] keep nb st e s := by
  unfold l66a at hl
  split at hl
  · rename_i nm t2 t3 hno
    cases hl
    have hno := normW_norm hno
    refine ⟨_, _, ?_, .enter hno ?_⟩
    · decide
    have main := fun y h => LB_run (x := (⟨t3⟩ : S66a)) (y := y) (nb := 0) (fun y => by cases y <;> simp [ou66a]) (rnd66a nm t2) h
    obtain ⟨x, hx, hg, rfl, rfl⟩ := chosen_any hch
    simp only [List.mem_cons, List.not_mem_nil, or_false] at hx
    rcases hx with rfl | rfl
    · exact main _ (is66a_0 nm t2 t3 hg)
    · exact main _ (is66a_1 nm t2 t3 hg)
  · cases hl
theorem L66_ok (q : Pl) (c : Code) (hq : locate c66 q.reverse = some (.loop c)) (st : St) (outs : List (Bool × Ex × St)) (e : Ex) (s : St) (hl : L66 q st = some outs) (hch : Chosen outs e s) :
    ∃ keep nb, 0 ≤ nb ∧ LB Try.prog Sd (ro 66) L66 c q keep nb st e s := by
  unfold L66 at hl
  split at hl
  · have : locate c66 ([false, true, false, true, true] : Pl).reverse = some (.loop lp66a) := by kernel_rfl
    rw [this] at hq
    cases hq
    exact lok66a hl hch
  · cases hl
theorem lok66 : LOK Try.prog Sd (ro 66) L66 0 false c66 [] :=
  lok_lo L66_ok c66 [] false (locate_nil _) (by kernel_rfl)
noncomputable def t66 (nm : ByteArray) : Tr ((Bool)) :=
  .cn (g86 (↑nm.size : Int) 1 16) (.cn (!w86_0 (↑nm.size : Int) 1 16) (.lf (false)) (.cn (inb 0 nm.size) (.cn (decide ((↑(nm.data.toList.getD 0 0).toNat : Int) < 97)) (.lf (false)) (.cn (inb 0 nm.size) (.cn (decide ((↑(nm.data.toList.getD 0 0).toNat : Int) > 122)) (.lf (false)) (.cn (i66a_0 nm false 0) (.lf (v66a_0_t2' nm false 0)) (.cn (i66a_1 nm false 0) (.lf (true)) (.nn)))) (.nn))) (.nn))) (.nn)
noncomputable def g66 (nm : ByteArray) : Bool := (t66 nm).g
noncomputable def w66_0 (nm : ByteArray) : Bool := (t66 nm).val
theorem eq66 (nm : ByteArray) : evF Try.prog Sd (ro 66) L66 Try.f66 [.s nm] = (t66 nm).opt (fun (x : (Bool)) => (.b x : AV)) := by kernel_rfl
theorem con66 (nm : ByteArray) (h : g66 nm = true) : Con Try.prog 66 [.s nm] [] (.b (w66_0 nm)) [] :=
  con_of Sd_ok mixed Try.func66 (c := c66) rfl (names 66 _ Try.func66) lok66 ((eq66 nm).trans (Tr.sound _ _ h))
noncomputable def e66 (args : List AV) (rows : List Blk) : Option (Bool × AV × List Blk) := match args, rows with
  | [.s nm], [] => some (g66 nm, .b (w66_0 nm), [])
  | _, _ => none
theorem e66_ok (args : List AV) (rows : List Blk) (pre : Bool) (v : AV) (rows' : List Blk) (h : e66 args rows = some (pre, v, rows')) (hp : pre = true) : Con Try.prog 66 args rows v rows' := by
  unfold e66 at h
  split at h
  · cases h; exact con66 _ hp
  · cases h
-- SPEC 66
end Go.Proofs.Ytgifjphinkbcaaa

set_option maxRecDepth 100000
set_option linter.unusedVariables false
namespace Go.Proofs.Ytgifjphinkbcaaa
open Go Go.Ev
noncomputable def Se : Ev.Spec := insS 66 e66 (insS 61 e61 (Sd))
theorem Se_ok : SpecOK Try.prog Se := insS_ok e66_ok (insS_ok e61_ok (Sd_ok))
end Go.Proofs.Ytgifjphinkbcaaa
