/-
  The law RidgeSawn of the roofer's ridges answers true whatever ridge, number, rod and saw it is handed; no conditions.
-/
import Derived.Test.YtgifjphinkbcaaaPe
import Derived.Test.YtgifjphinkbcaaaPd
import Derived.Test.YtgifjphinkbcaaaPc
import Derived.Test.YtgifjphinkbcaaaPa
set_option linter.unusedVariables false
set_option maxRecDepth 100000
set_option linter.unusedVariables false
namespace Go.Proofs.Ytgifjphinkbcaaa
open Go Go.Ev
/-- Rods that are handed in. -/
theorem rods_of {a : AV} (h : TyArg Try.prog 35 a) : ∃ da db cs, a = .agg [.i .i64 da, .i .i64 db, .rs 64 cs] := by
  obtain ⟨bs, rfl, hw⟩ := ty_agg (c := [.int .i64, .int .i64, .sl 64]) (by kernel_rfl) (by kernel_rfl) h
  obtain ⟨b0, q0, rfl, w0, hw⟩ := WTs_cons hw
  obtain ⟨b1, q1, rfl, w1, hw⟩ := WTs_cons hw
  obtain ⟨b3, q3, rfl, w3, hw⟩ := WTs_cons hw
  obtain rfl := WTs_nil hw
  obtain ⟨ra, rfl, r1⟩ := WT_int w0
  obtain ⟨rb, rfl, r2⟩ := WT_int w1
  obtain ⟨ps, rfl, _⟩ := WT_sl w3
  exact ⟨ra, rb, ps, rfl⟩
end Go.Proofs.Ytgifjphinkbcaaa

set_option maxRecDepth 100000
set_option linter.unusedVariables false
namespace Go.Proofs.Ytgifjphinkbcaaa
open Go Go.Ev
theorem fine_ok {da db : Int} {cs : List (List AV)} (hF : RFine da db cs) : w24_0 da db cs = 0 := by
  have hl := hF.l
  have ha := hF.a
  have hb := hF.b
  have r1 : ∃ a, r24a da db cs 0 cs (cs.length : Int) 0 0 = some (.x1 (smn cs cs.length) a) := by
    have run := run_for (S := Unit) (step := fun x : S24a => stp24a da db cs 0 cs (cs.length : Int) x.t3 x.t25) cs.length (fun k _ => (⟨smn cs k, (k : Int)⟩ : S24a)) (fun _ _ => True) (fun _ _ (y : T24a) => ∃ a, y = .x1 (smn cs cs.length) a)
      (fun k _ hk _ => by
        left
        refine ⟨(), ?_, trivial, fun y hy => hy⟩
        have hc := hF.c k hk
        have hsm := smn_le (cs := cs) (k := k) (fun j hj => hF.c j (by omega))
        unfold okCut at hc
        have e0 : fI (cs.getD k []) 0 = ln cs k := rfl
        have e1 : fI (cs.getD k []) 1 = mn cs k := rfl
        unfold stp24a
        dsimp only
        rw [lt_true hk, inb_true hk, Int.toNat_natCast, e0, e1, g55_true, g55_true, w55_eq, w55_eq, decide_eq_true hc.1, decide_eq_true hc.2.1, decide_eq_true hc.2.2.1, decide_eq_true hc.2.2.2, wrap64 (x := smn cs k + mn cs k) (by omega) (by omega), wrap_succ (by omega)]
        rfl)
      (fun _ _ => by
        refine ⟨.x1 (smn cs cs.length) (cs.length : Int), ?_, _, rfl⟩
        unfold stp24a
        dsimp only
        rw [lt_false]; rfl)
      0 () (by omega) trivial
    obtain ⟨y, h1, a, h2⟩ := run
    exact ⟨a, by rw [← h2]; exact h1⟩
  have r2 : ∃ a, r83a cs da db cs 0 (cs.length : Int) 0 = some (.x1 a) := by
    have run := run_for (S := Unit) (step := fun x : S83a => stp83a cs da db cs 0 (cs.length : Int) x.t8) cs.length (fun k _ => (⟨(k : Int)⟩ : S83a)) (fun _ _ => True) (fun _ _ (y : T83a) => ∃ a, y = .x1 a)
      (fun k _ hk _ => by
        left
        refine ⟨(), ?_, trivial, fun y hy => hy⟩
        have hc := hF.f k hk
        have e1 : w60_0 da db cs (fI (cs.getD k []) 0) (fI (cs.getD k []) 1) = false := by
          show decide (ln cs k > da) = false
          exact decide_eq_false (by omega)
        unfold stp83a
        dsimp only
        rw [lt_true hk, inb_true hk, Int.toNat_natCast, e1, wrap_succ (by omega)]
        rfl)
      (fun _ _ => by
        refine ⟨.x1 (cs.length : Int), ?_, _, rfl⟩
        unfold stp83a
        dsimp only
        rw [lt_false]; rfl)
      0 () (by omega) trivial
    obtain ⟨y, h1, a, h2⟩ := run
    exact ⟨a, by rw [← h2]; exact h1⟩
  obtain ⟨a, r1⟩ := r1
  obtain ⟨b, r2⟩ := r2
  obtain ⟨h83, _, h83b⟩ := w83_val r2
  have h59 : g59 cs da db cs = true ∧ w59_0 cs da db cs = false := by
    unfold g59 w59_0 t59
    rw [h83, h83b b rfl]
    exact ⟨rfl, rfl⟩
  have hs := hF.s
  unfold w24_0 t24
  rw [g55_true, g55_true, w55_eq, w55_eq, decide_eq_true ha.1, decide_eq_true ha.2, decide_eq_true hb.1, decide_eq_true hb.2, decide_eq_false (show ¬ (cs.length : Int) > 8 by omega)]
  unfold i24a_0 i24a_1 v24a_1_t3
  rw [r1]
  dsimp only
  rw [decide_eq_false (show ¬ smn cs cs.length > 12 by omega), h59.1, h59.2]
  rfl
end Go.Proofs.Ytgifjphinkbcaaa

set_option maxRecDepth 100000
set_option linter.unusedVariables false
namespace Go.Proofs.Ytgifjphinkbcaaa
open Go Go.Ev
noncomputable def SS1 : Ev.Spec := insS 85 e85 (S0)
theorem SS1_ok : SpecOK Try.prog SS1 := insS_ok e85_ok (S0_ok)
end Go.Proofs.Ytgifjphinkbcaaa

set_option maxRecDepth 100000
set_option maxHeartbeats 0
set_option linter.unusedVariables false
namespace Go.Proofs.Ytgifjphinkbcaaa
open Go Go.Ev

/-! ### strings.indexFunc -/
noncomputable def c94 : Code := match Try.f94.body with | some c => c | _ => .skip
noncomputable def lp94a : Code := loopAt c94 [true, false, true, false]
noncomputable def s94a (tr : Bool) (t6 : Int) (nm : ByteArray) (m2_1 : Nat) : St :=
  { t := [(1, .fn 85 []), (2, .b tr), (6, .i .i64 t6), (10, .it 2)], m := [(0, .dead), (1, .dead), (2, .si nm m2_1)], nx := 3, nt := 21 }
structure S94a where
  m2_1 : Nat
inductive T94a where
  | x0 (t6' : Int) (m2_1 : Nat)
  | x1 (m2_1 : Nat)
noncomputable def stp94a (tr : Bool) (t6 : Int) (nm : ByteArray) (m2_1 : Nat) : Lp S94a T94a :=
  cond (m2_1.blt nm.size) (cond (g85 (↑(Utf8.decode nm m2_1).fst : Int)) (cond (w85_0 (↑(Utf8.decode nm m2_1).fst : Int) == tr) (.out (.x0 (↑m2_1 : Int) (m2_1 + (Utf8.decode nm m2_1).snd))) (.go ⟨m2_1 + (Utf8.decode nm m2_1).snd⟩)) (.bad)) (.out (.x1 m2_1))
noncomputable def o94a_0 (tr : Bool) (t6 : Int) (nm : ByteArray) (t6' : Int) (m2_1 : Nat) : St :=
  { t := [(1, .fn 85 []), (2, .b tr), (6, .i .i64 t6'), (10, .it 2)], m := [(0, .dead), (1, .dead), (2, .si nm m2_1)], nx := 3, nt := 21 }
noncomputable def o94a_1 (tr : Bool) (t6 : Int) (nm : ByteArray) (m2_1 : Nat) : St :=
  { t := [(1, .fn 85 []), (2, .b tr), (6, .i .i64 t6), (10, .it 2)], m := [(0, .dead), (1, .dead), (2, .si nm m2_1)], nx := 3, nt := 21 }
noncomputable def ou94a (tr : Bool) (t6 : Int) (nm : ByteArray) : T94a → Ex × St
  | .x0 t6' m2_1 => (.ret, o94a_0 tr t6 nm t6' m2_1)
  | .x1 m2_1 => (.ext 0, o94a_1 tr t6 nm m2_1)
noncomputable def r94a (tr : Bool) (t6 : Int) (nm : ByteArray) (m2_1 : Nat) : Option T94a := run (fun x => stp94a tr t6 nm x.m2_1) (⟨m2_1⟩ : S94a)
noncomputable def i94a_0 (tr : Bool) (t6 : Int) (nm : ByteArray) (m2_1 : Nat) : Bool := match r94a tr t6 nm m2_1 with
  | some (.x0 _ _) => true
  | _ => false
noncomputable def v94a_0_t6' (tr : Bool) (t6 : Int) (nm : ByteArray) (m2_1 : Nat) : Int := match r94a tr t6 nm m2_1 with
  | some (.x0 t6' _) => t6'
  | _ => default
noncomputable def v94a_0_m2_1 (tr : Bool) (t6 : Int) (nm : ByteArray) (m2_1 : Nat) : Nat := match r94a tr t6 nm m2_1 with
  | some (.x0 _ m2_1) => m2_1
  | _ => default
noncomputable def i94a_1 (tr : Bool) (t6 : Int) (nm : ByteArray) (m2_1 : Nat) : Bool := match r94a tr t6 nm m2_1 with
  | some (.x1 _) => true
  | _ => false
noncomputable def v94a_1_m2_1 (tr : Bool) (t6 : Int) (nm : ByteArray) (m2_1 : Nat) : Nat := match r94a tr t6 nm m2_1 with
  | some (.x1 m2_1) => m2_1
  | _ => default
noncomputable def l94a (st : St) : Option (List (Bool × Ex × St)) := match normW Try.prog [(1, none), (2, none), (6, none), (10, none)] 3 st with
  | some ([.fn 85 [], .b tr, .i .i64 t6, .it 2], [(0, .dead), (1, .dead), (2, .si nm m2_1)], 3, 21) => some [(i94a_0 tr t6 nm m2_1, .ret, o94a_0 tr t6 nm (v94a_0_t6' tr t6 nm m2_1) (v94a_0_m2_1 tr t6 nm m2_1)), (i94a_1 tr t6 nm m2_1, .ext 0, o94a_1 tr t6 nm (v94a_1_m2_1 tr t6 nm m2_1))]
  | _ => none
noncomputable def L94 : LSpec := fun p st => match p with
  | [false, true, false, true] => l94a st
  | _ => none
theorem is94a_0 (tr : Bool) (t6 : Int) (nm : ByteArray) (m2_1 : Nat) (h : i94a_0 tr t6 nm m2_1 = true) : r94a tr t6 nm m2_1 = some (.x0 (v94a_0_t6' tr t6 nm m2_1) (v94a_0_m2_1 tr t6 nm m2_1)) := by
  unfold i94a_0 at h
  unfold v94a_0_t6' v94a_0_m2_1
  generalize r94a tr t6 nm m2_1 = r at h ⊢
  rcases r with _ | y
  · cases h
  · cases y <;> first | rfl | cases h
theorem is94a_1 (tr : Bool) (t6 : Int) (nm : ByteArray) (m2_1 : Nat) (h : i94a_1 tr t6 nm m2_1 = true) : r94a tr t6 nm m2_1 = some (.x1 (v94a_1_m2_1 tr t6 nm m2_1)) := by
  unfold i94a_1 at h
  unfold v94a_1_m2_1
  generalize r94a tr t6 nm m2_1 = r at h ⊢
  rcases r with _ | y
  · cases h
  · cases y <;> first | rfl | cases h
theorem round94a (tr : Bool) (t6 : Int) (nm : ByteArray) (m2_1 : Nat) : round Try.prog SS1 (ro 94) L94 lp94a [false, true, false, true] [(1, none), (2, none), (6, none), (10, none)] 3 (s94a tr t6 nm m2_1) =
    cond (m2_1.blt nm.size) (cond (g85 (↑(Utf8.decode nm m2_1).fst : Int)) (cond (w85_0 (↑(Utf8.decode nm m2_1).fst : Int) == tr) (some (.ret, o94a_0 tr t6 nm (↑m2_1 : Int) (m2_1 + (Utf8.decode nm m2_1).snd))) (some (.nrm, s94a tr t6 nm (m2_1 + (Utf8.decode nm m2_1).snd)))) (none)) (some (.ext 0, o94a_1 tr t6 nm m2_1)) := by kernel_rfl
theorem rnd94a (tr : Bool) (t6 : Int) (nm : ByteArray) (x : S94a) : round Try.prog SS1 (ro 94) L94 lp94a [false, true, false, true] [(1, none), (2, none), (6, none), (10, none)] 3 ((fun x => s94a tr t6 nm x.m2_1) x) = toR (fun x => s94a tr t6 nm x.m2_1) (ou94a tr t6 nm) (stp94a tr t6 nm x.m2_1) := by
  refine (round94a _ _ _ _ ).trans ?_
  unfold stp94a
  simp only [toR_cond]
  rfl
theorem lok94a {st : St} {outs : List (Bool × Ex × St)} {e : Ex} {s : St} (hl : l94a st = some outs) (hch : Chosen outs e s) :
    ∃ keep nb, 0 ≤ nb ∧ LB Try.prog SS1 (ro 94) L94 lp94a [false, true, false, true] keep nb st e s := by
  unfold l94a at hl
  split at hl
  · rename_i tr t6 nm m2_1 hno
    cases hl
    have hno := normW_norm hno
    refine ⟨_, _, ?_, .enter hno ?_⟩
    · decide
    have main := fun y h => LB_run (x := (⟨m2_1⟩ : S94a)) (y := y) (nb := 3) (fun y => by cases y <;> simp [ou94a]) (rnd94a tr t6 nm) h
    obtain ⟨x, hx, hg, rfl, rfl⟩ := chosen_any hch
    simp only [List.mem_cons, List.not_mem_nil, or_false] at hx
    rcases hx with rfl | rfl
    · exact main _ (is94a_0 tr t6 nm m2_1 hg)
    · exact main _ (is94a_1 tr t6 nm m2_1 hg)
  · cases hl
theorem L94_ok (q : Pl) (c : Code) (hq : locate c94 q.reverse = some (.loop c)) (st : St) (outs : List (Bool × Ex × St)) (e : Ex) (s : St) (hl : L94 q st = some outs) (hch : Chosen outs e s) :
    ∃ keep nb, 0 ≤ nb ∧ LB Try.prog SS1 (ro 94) L94 c q keep nb st e s := by
  unfold L94 at hl
  split at hl
  · have : locate c94 ([false, true, false, true] : Pl).reverse = some (.loop lp94a) := by kernel_rfl
    rw [this] at hq
    cases hq
    exact lok94a hl hch
  · cases hl
theorem lok94 : LOK Try.prog SS1 (ro 94) L94 0 false c94 [] :=
  lok_lo L94_ok c94 [] false (locate_nil _) (by kernel_rfl)
noncomputable def t94 (nm : ByteArray) (tr : Bool) : Tr ((Int)) :=
  .cn (i94a_0 tr 0 nm 0) (.lf (v94a_0_t6' tr 0 nm 0)) (.cn (i94a_1 tr 0 nm 0) (.lf (-1)) (.nn))
noncomputable def g94 (nm : ByteArray) (tr : Bool) : Bool := (t94 nm tr).g
noncomputable def w94_0 (nm : ByteArray) (tr : Bool) : Int := (t94 nm tr).val
theorem eq94 (nm : ByteArray) (tr : Bool) : evF Try.prog SS1 (ro 94) L94 Try.f94 [.s nm, .fn 85 [], .b tr] = (t94 nm tr).opt (fun (x : (Int)) => (.i .i64 x : AV)) := by kernel_rfl
theorem con94 (nm : ByteArray) (tr : Bool) (h : g94 nm tr = true) : Con Try.prog 94 [.s nm, .fn 85 [], .b tr] [] (.i .i64 (w94_0 nm tr)) [] :=
  con_of SS1_ok mixed Try.func94 (c := c94) rfl (names 94 _ Try.func94) lok94 ((eq94 nm tr).trans (Tr.sound _ _ h))
noncomputable def e94 (args : List AV) (rows : List Blk) : Option (Bool × AV × List Blk) := match args, rows with
  | [.s nm, .fn 85 [], .b tr], [] => some (g94 nm tr, .i .i64 (w94_0 nm tr), [])
  | _, _ => none
theorem e94_ok (args : List AV) (rows : List Blk) (pre : Bool) (v : AV) (rows' : List Blk) (h : e94 args rows = some (pre, v, rows')) (hp : pre = true) : Con Try.prog 94 args rows v rows' := by
  unfold e94 at h
  split at h
  · cases h; exact con94 _ _ hp
  · cases h
-- SPEC 94
end Go.Proofs.Ytgifjphinkbcaaa

set_option maxRecDepth 100000
set_option linter.unusedVariables false
namespace Go.Proofs.Ytgifjphinkbcaaa
open Go Go.Ev
noncomputable def SS2 : Ev.Spec := insS 94 e94 (S0)
theorem SS2_ok : SpecOK Try.prog SS2 := insS_ok e94_ok (S0_ok)
end Go.Proofs.Ytgifjphinkbcaaa

set_option maxRecDepth 100000
set_option maxHeartbeats 0
set_option linter.unusedVariables false
namespace Go.Proofs.Ytgifjphinkbcaaa
open Go Go.Ev

/-! ### strings.IndexFunc -/
noncomputable def c91 : Code := match Try.f91.body with | some c => c | _ => .skip
theorem lok91 : LOK Try.prog SS2 (ro 91) (fun _ _ => none) 0 false c91 [] :=
  lok_lo (fun _ _ _ _ _ _ _ h _ => by cases h) c91 [] false (locate_nil _) (by kernel_rfl)
noncomputable def t91 (nm : ByteArray) : Tr ((Int)) :=
  .cn (g94 nm true) (.lf (w94_0 nm true)) (.nn)
noncomputable def g91 (nm : ByteArray) : Bool := (t91 nm).g
noncomputable def w91_0 (nm : ByteArray) : Int := (t91 nm).val
theorem eq91 (nm : ByteArray) : evF Try.prog SS2 (ro 91) (fun _ _ => none) Try.f91 [.s nm, .fn 85 []] = (t91 nm).opt (fun (x : (Int)) => (.i .i64 x : AV)) := by kernel_rfl
theorem con91 (nm : ByteArray) (h : g91 nm = true) : Con Try.prog 91 [.s nm, .fn 85 []] [] (.i .i64 (w91_0 nm)) [] :=
  con_of SS2_ok mixed Try.func91 (c := c91) rfl (names 91 _ Try.func91) lok91 ((eq91 nm).trans (Tr.sound _ _ h))
noncomputable def e91 (args : List AV) (rows : List Blk) : Option (Bool × AV × List Blk) := match args, rows with
  | [.s nm, .fn 85 []], [] => some (g91 nm, .i .i64 (w91_0 nm), [])
  | _, _ => none
theorem e91_ok (args : List AV) (rows : List Blk) (pre : Bool) (v : AV) (rows' : List Blk) (h : e91 args rows = some (pre, v, rows')) (hp : pre = true) : Con Try.prog 91 args rows v rows' := by
  unfold e91 at h
  split at h
  · cases h; exact con91 _ hp
  · cases h
-- SPEC 91
end Go.Proofs.Ytgifjphinkbcaaa

set_option maxRecDepth 100000
set_option linter.unusedVariables false
namespace Go.Proofs.Ytgifjphinkbcaaa
open Go Go.Ev
noncomputable def SS3 : Ev.Spec := insS 91 e91 (S0)
theorem SS3_ok : SpecOK Try.prog SS3 := insS_ok e91_ok (S0_ok)
end Go.Proofs.Ytgifjphinkbcaaa

set_option maxRecDepth 100000
set_option maxHeartbeats 0
set_option linter.unusedVariables false
namespace Go.Proofs.Ytgifjphinkbcaaa
open Go Go.Ev

/-! ### strings.ContainsFunc -/
noncomputable def c84 : Code := match Try.f84.body with | some c => c | _ => .skip
theorem lok84 : LOK Try.prog SS3 (ro 84) (fun _ _ => none) 0 false c84 [] :=
  lok_lo (fun _ _ _ _ _ _ _ h _ => by cases h) c84 [] false (locate_nil _) (by kernel_rfl)
noncomputable def t84 (nm : ByteArray) : Tr ((Bool)) :=
  .cn (g91 nm) (.lf (decide (w91_0 nm ≥ 0))) (.nn)
noncomputable def g84 (nm : ByteArray) : Bool := (t84 nm).g
noncomputable def w84_0 (nm : ByteArray) : Bool := (t84 nm).val
theorem eq84 (nm : ByteArray) : evF Try.prog SS3 (ro 84) (fun _ _ => none) Try.f84 [.s nm, .fn 85 []] = (t84 nm).opt (fun (x : (Bool)) => (.b x : AV)) := by kernel_rfl
theorem con84 (nm : ByteArray) (h : g84 nm = true) : Con Try.prog 84 [.s nm, .fn 85 []] [] (.b (w84_0 nm)) [] :=
  con_of SS3_ok mixed Try.func84 (c := c84) rfl (names 84 _ Try.func84) lok84 ((eq84 nm).trans (Tr.sound _ _ h))
noncomputable def e84 (args : List AV) (rows : List Blk) : Option (Bool × AV × List Blk) := match args, rows with
  | [.s nm, .fn 85 []], [] => some (g84 nm, .b (w84_0 nm), [])
  | _, _ => none
theorem e84_ok (args : List AV) (rows : List Blk) (pre : Bool) (v : AV) (rows' : List Blk) (h : e84 args rows = some (pre, v, rows')) (hp : pre = true) : Con Try.prog 84 args rows v rows' := by
  unfold e84 at h
  split at h
  · cases h; exact con84 _ hp
  · cases h
-- SPEC 84
end Go.Proofs.Ytgifjphinkbcaaa

set_option maxRecDepth 100000
set_option linter.unusedVariables false
namespace Go.Proofs.Ytgifjphinkbcaaa
open Go Go.Ev
noncomputable def SS4 : Ev.Spec := insS 84 e84 (S0)
theorem SS4_ok : SpecOK Try.prog SS4 := insS_ok e84_ok (S0_ok)
end Go.Proofs.Ytgifjphinkbcaaa

set_option maxRecDepth 100000
set_option maxHeartbeats 0
set_option linter.unusedVariables false
namespace Go.Proofs.Ytgifjphinkbcaaa
open Go Go.Ev

/-! ### isName -/
noncomputable def c61 : Code := match Try.f61.body with | some c => c | _ => .skip
theorem lok61 : LOK Try.prog SS4 (ro 61) (fun _ _ => none) 0 false c61 [] :=
  lok_lo (fun _ _ _ _ _ _ _ h _ => by cases h) c61 [] false (locate_nil _) (by kernel_rfl)
noncomputable def t61 (nm : ByteArray) : Tr ((Bool)) :=
  .cn (nm.toList == (⟨#[]⟩ : ByteArray).toList) (.lf (false)) (.cn (decide ((↑nm.size : Int) > 16)) (.lf (false)) (.cn (inb 0 nm.size) (.cn (decide ((↑(nm.data.toList.getD 0 0).toNat : Int) < 97)) (.lf (false)) (.cn (inb 0 nm.size) (.cn (decide ((↑(nm.data.toList.getD 0 0).toNat : Int) > 122)) (.lf (false)) (.cn (g84 nm) (.lf (!w84_0 nm)) (.nn))) (.nn))) (.nn)))
noncomputable def g61 (nm : ByteArray) : Bool := (t61 nm).g
noncomputable def w61_0 (nm : ByteArray) : Bool := (t61 nm).val
theorem eq61 (nm : ByteArray) : evF Try.prog SS4 (ro 61) (fun _ _ => none) Try.f61 [.s nm] = (t61 nm).opt (fun (x : (Bool)) => (.b x : AV)) := by kernel_rfl
theorem con61 (nm : ByteArray) (h : g61 nm = true) : Con Try.prog 61 [.s nm] [] (.b (w61_0 nm)) [] :=
  con_of SS4_ok mixed Try.func61 (c := c61) rfl (names 61 _ Try.func61) lok61 ((eq61 nm).trans (Tr.sound _ _ h))
noncomputable def e61 (args : List AV) (rows : List Blk) : Option (Bool × AV × List Blk) := match args, rows with
  | [.s nm], [] => some (g61 nm, .b (w61_0 nm), [])
  | _, _ => none
theorem e61_ok (args : List AV) (rows : List Blk) (pre : Bool) (v : AV) (rows' : List Blk) (h : e61 args rows = some (pre, v, rows')) (hp : pre = true) : Con Try.prog 61 args rows v rows' := by
  unfold e61 at h
  split at h
  · cases h; exact con61 _ hp
  · cases h
-- SPEC 61
end Go.Proofs.Ytgifjphinkbcaaa

set_option maxRecDepth 100000
set_option linter.unusedVariables false
namespace Go.Proofs.Ytgifjphinkbcaaa
open Go Go.Ev
noncomputable def SS5 : Ev.Spec := insS 63 e63 (insS 62 e62 (insS 61 e61 (insS 55 e55 (S0))))
theorem SS5_ok : SpecOK Try.prog SS5 := insS_ok e63_ok (insS_ok e62_ok (insS_ok e61_ok (insS_ok e55_ok (S0_ok))))
end Go.Proofs.Ytgifjphinkbcaaa

set_option maxRecDepth 100000
set_option maxHeartbeats 0
set_option linter.unusedVariables false
namespace Go.Proofs.Ytgifjphinkbcaaa
open Go Go.Ev

/-! ### ridge.Check -/
noncomputable def c29 : Code := match Try.f29.body with | some c => c | _ => .skip
noncomputable def lp29a : Code := loopAt c29 [true, true, true, false, true, false]
noncomputable def s29a (ra : Int) (rb : Int) (rc : Int) (ps : List (List AV)) (t2 : Int) (t33 : List (List AV)) (t34 : Int) (t35 : Int) (m24 : List (AV × AV)) : St :=
  { t := [(1, .rp [.int .i64, .int .i64, .int .i64, .sl 31] [.i .i64 ra, .i .i64 rb, .i .i64 rc, .rs 31 ps] 0), (2, .i .i64 t2), (3, .mp 24), (33, .rs 31 t33), (34, .i .i64 t34), (35, .i .i64 t35)], m := [(0, .dead), (1, .dead), (2, .dead), (3, .dead), (4, .dead), (5, .dead), (6, .dead), (7, .dead), (8, .dead), (9, .dead), (10, .dead), (11, .dead), (12, .dead), (13, .dead), (14, .dead), (15, .dead), (16, .dead), (17, .dead), (18, .dead), (19, .dead), (20, .dead), (21, .dead), (22, .dead), (23, .dead), (24, .mp 9 4 m24)], nx := 25, nt := 104 }
structure S29a where
  t35 : Int
  m24 : List (AV × AV)
inductive T29a where
  | x0 (t2' : Int) (t35 : Int) (m24 : List (AV × AV))
  | x1 (t35 : Int) (m24 : List (AV × AV))
noncomputable def stp29a (ra : Int) (rb : Int) (rc : Int) (ps : List (List AV)) (t2 : Int) (t33 : List (List AV)) (t34 : Int) (t35 : Int) (m24 : List (AV × AV)) : Lp S29a T29a :=
  cond (decide (t35 < t34)) (cond (inb t35 t33.length) (cond (g61 (fS (t33.getD t35.toNat []) 0)) (cond (!w61_0 (fS (t33.getD t35.toNat []) 0)) (.out (.x0 5 t35 m24)) (cond (toB ((mget (AV.s (fS (t33.getD t35.toNat []) 0)) m24).getD (AV.b false))) (.out (.x0 6 t35 m24)) (cond (g55 (fI (t33.getD t35.toNat []) 1) 1 2000) (cond (!w55_0 (fI (t33.getD t35.toNat []) 1) 1 2000) (.out (.x0 1 t35 m24)) (cond (g55 (fI (t33.getD t35.toNat []) 2) 0 9) (cond (!w55_0 (fI (t33.getD t35.toNat []) 2) 0 9) (.out (.x0 1 t35 m24)) (cond (g55 (fI (t33.getD t35.toNat []) 3) 0 9) (cond (!w55_0 (fI (t33.getD t35.toNat []) 3) 0 9) (.out (.x0 1 t35 m24)) (.go ⟨IntKind.i64.wrap (t35 + 1), mset (AV.s (fS (t33.getD t35.toNat []) 0)) (AV.b true) m24⟩)) (.bad))) (.bad))) (.bad)))) (.bad)) (.bad)) (.out (.x1 t35 m24))
noncomputable def o29a_0 (ra : Int) (rb : Int) (rc : Int) (ps : List (List AV)) (t2 : Int) (t33 : List (List AV)) (t34 : Int) (t2' : Int) (t35 : Int) (m24 : List (AV × AV)) : St :=
  { t := [(1, .rp [.int .i64, .int .i64, .int .i64, .sl 31] [.i .i64 ra, .i .i64 rb, .i .i64 rc, .rs 31 ps] 0), (2, .i .i64 t2'), (3, .mp 24), (33, .rs 31 t33), (34, .i .i64 t34), (35, .i .i64 t35)], m := [(0, .dead), (1, .dead), (2, .dead), (3, .dead), (4, .dead), (5, .dead), (6, .dead), (7, .dead), (8, .dead), (9, .dead), (10, .dead), (11, .dead), (12, .dead), (13, .dead), (14, .dead), (15, .dead), (16, .dead), (17, .dead), (18, .dead), (19, .dead), (20, .dead), (21, .dead), (22, .dead), (23, .dead), (24, .mp 9 4 m24)], nx := 25, nt := 104 }
noncomputable def o29a_1 (ra : Int) (rb : Int) (rc : Int) (ps : List (List AV)) (t2 : Int) (t33 : List (List AV)) (t34 : Int) (t35 : Int) (m24 : List (AV × AV)) : St :=
  { t := [(1, .rp [.int .i64, .int .i64, .int .i64, .sl 31] [.i .i64 ra, .i .i64 rb, .i .i64 rc, .rs 31 ps] 0), (2, .i .i64 t2), (3, .mp 24), (33, .rs 31 t33), (34, .i .i64 t34), (35, .i .i64 t35)], m := [(0, .dead), (1, .dead), (2, .dead), (3, .dead), (4, .dead), (5, .dead), (6, .dead), (7, .dead), (8, .dead), (9, .dead), (10, .dead), (11, .dead), (12, .dead), (13, .dead), (14, .dead), (15, .dead), (16, .dead), (17, .dead), (18, .dead), (19, .dead), (20, .dead), (21, .dead), (22, .dead), (23, .dead), (24, .mp 9 4 m24)], nx := 25, nt := 104 }
noncomputable def ou29a (ra : Int) (rb : Int) (rc : Int) (ps : List (List AV)) (t2 : Int) (t33 : List (List AV)) (t34 : Int) : T29a → Ex × St
  | .x0 t2' t35 m24 => (.ret, o29a_0 ra rb rc ps t2 t33 t34 t2' t35 m24)
  | .x1 t35 m24 => (.ext 1, o29a_1 ra rb rc ps t2 t33 t34 t35 m24)
noncomputable def r29a (ra : Int) (rb : Int) (rc : Int) (ps : List (List AV)) (t2 : Int) (t33 : List (List AV)) (t34 : Int) (t35 : Int) (m24 : List (AV × AV)) : Option T29a := run (fun x => stp29a ra rb rc ps t2 t33 t34 x.t35 x.m24) (⟨t35, m24⟩ : S29a)
noncomputable def i29a_0 (ra : Int) (rb : Int) (rc : Int) (ps : List (List AV)) (t2 : Int) (t33 : List (List AV)) (t34 : Int) (t35 : Int) (m24 : List (AV × AV)) : Bool := match r29a ra rb rc ps t2 t33 t34 t35 m24 with
  | some (.x0 _ _ _) => true
  | _ => false
noncomputable def v29a_0_t2' (ra : Int) (rb : Int) (rc : Int) (ps : List (List AV)) (t2 : Int) (t33 : List (List AV)) (t34 : Int) (t35 : Int) (m24 : List (AV × AV)) : Int := match r29a ra rb rc ps t2 t33 t34 t35 m24 with
  | some (.x0 t2' _ _) => t2'
  | _ => default
noncomputable def v29a_0_t35 (ra : Int) (rb : Int) (rc : Int) (ps : List (List AV)) (t2 : Int) (t33 : List (List AV)) (t34 : Int) (t35 : Int) (m24 : List (AV × AV)) : Int := match r29a ra rb rc ps t2 t33 t34 t35 m24 with
  | some (.x0 _ t35 _) => t35
  | _ => default
noncomputable def v29a_0_m24 (ra : Int) (rb : Int) (rc : Int) (ps : List (List AV)) (t2 : Int) (t33 : List (List AV)) (t34 : Int) (t35 : Int) (m24 : List (AV × AV)) : List (AV × AV) := match r29a ra rb rc ps t2 t33 t34 t35 m24 with
  | some (.x0 _ _ m24) => m24
  | _ => default
noncomputable def i29a_1 (ra : Int) (rb : Int) (rc : Int) (ps : List (List AV)) (t2 : Int) (t33 : List (List AV)) (t34 : Int) (t35 : Int) (m24 : List (AV × AV)) : Bool := match r29a ra rb rc ps t2 t33 t34 t35 m24 with
  | some (.x1 _ _) => true
  | _ => false
noncomputable def v29a_1_t35 (ra : Int) (rb : Int) (rc : Int) (ps : List (List AV)) (t2 : Int) (t33 : List (List AV)) (t34 : Int) (t35 : Int) (m24 : List (AV × AV)) : Int := match r29a ra rb rc ps t2 t33 t34 t35 m24 with
  | some (.x1 t35 _) => t35
  | _ => default
noncomputable def v29a_1_m24 (ra : Int) (rb : Int) (rc : Int) (ps : List (List AV)) (t2 : Int) (t33 : List (List AV)) (t34 : Int) (t35 : Int) (m24 : List (AV × AV)) : List (AV × AV) := match r29a ra rb rc ps t2 t33 t34 t35 m24 with
  | some (.x1 _ m24) => m24
  | _ => default
noncomputable def l29a (st : St) : Option (List (Bool × Ex × St)) := match normW Try.prog [(1, none), (2, none), (3, none), (33, none), (34, none), (35, none)] 25 st with
  | some ([.rp [.int .i64, .int .i64, .int .i64, .sl 31] [.i .i64 ra, .i .i64 rb, .i .i64 rc, .rs 31 ps] 0, .i .i64 t2, .mp 24, .rs 31 t33, .i .i64 t34, .i .i64 t35], (0, .dead) :: (1, .dead) :: (2, .dead) :: (3, .dead) :: (4, .dead) :: (5, .dead) :: (6, .dead) :: (7, .dead) :: (8, .dead) :: (9, .dead) :: (10, .dead) :: (11, .dead) :: (12, .dead) :: (13, .dead) :: (14, .dead) :: (15, .dead) :: (16, .dead) :: (17, .dead) :: (18, .dead) :: (19, .dead) :: (20, .dead) :: (21, .dead) :: (22, .dead) :: (23, .dead) :: (24, .mp 9 4 m24) :: [], 25, 104) => some [(i29a_0 ra rb rc ps t2 t33 t34 t35 m24, .ret, o29a_0 ra rb rc ps t2 t33 t34 (v29a_0_t2' ra rb rc ps t2 t33 t34 t35 m24) (v29a_0_t35 ra rb rc ps t2 t33 t34 t35 m24) (v29a_0_m24 ra rb rc ps t2 t33 t34 t35 m24)), (i29a_1 ra rb rc ps t2 t33 t34 t35 m24, .ext 1, o29a_1 ra rb rc ps t2 t33 t34 (v29a_1_t35 ra rb rc ps t2 t33 t34 t35 m24) (v29a_1_m24 ra rb rc ps t2 t33 t34 t35 m24))]
  | _ => none
noncomputable def lp29b : Code := loopAt c29 [true, true, true, true, false, true, false]
noncomputable def s29b (ra : Int) (rb : Int) (rc : Int) (ps : List (List AV)) (t2 : Int) (t71 : List (List AV)) (t72 : Int) (t73 : Int) : St :=
  { t := [(1, .rp [.int .i64, .int .i64, .int .i64, .sl 31] [.i .i64 ra, .i .i64 rb, .i .i64 rc, .rs 31 ps] 0), (2, .i .i64 t2), (71, .rs 31 t71), (72, .i .i64 t72), (73, .i .i64 t73)], m := [], nx := 0, nt := 104 }
structure S29b where
  t73 : Int
inductive T29b where
  | x0 (t2' : Int) (t73 : Int)
  | x1 (t73 : Int)
noncomputable def stp29b (ra : Int) (rb : Int) (rc : Int) (ps : List (List AV)) (t2 : Int) (t71 : List (List AV)) (t72 : Int) (t73 : Int) : Lp S29b T29b :=
  cond (decide (t73 < t72)) (cond (inb t73 t71.length) (cond (g55 (fI (t71.getD t73.toNat []) 4) 0 (IntKind.i64.wrap ((↑ps.length : Int) - 1))) (cond (!w55_0 (fI (t71.getD t73.toNat []) 4) 0 (IntKind.i64.wrap ((↑ps.length : Int) - 1))) (.out (.x0 7 t73)) (cond (inb (fI (t71.getD t73.toNat []) 4) ps.length) (cond (fI (ps.getD (fI (t71.getD t73.toNat []) 4).toNat []) 4 != t73) (.out (.x0 10 t73)) (cond (!((w62_0 (fS (ps.getD (fI (t71.getD t73.toNat []) 4).toNat []) 0) (fI (ps.getD (fI (t71.getD t73.toNat []) 4).toNat []) 1) (fI (ps.getD (fI (t71.getD t73.toNat []) 4).toNat []) 2) (fI (ps.getD (fI (t71.getD t73.toNat []) 4).toNat []) 3) (fI (ps.getD (fI (t71.getD t73.toNat []) 4).toNat []) 4)).toList == (w63_0 (fS (t71.getD t73.toNat []) 0) (fI (t71.getD t73.toNat []) 1) (fI (t71.getD t73.toNat []) 2) (fI (t71.getD t73.toNat []) 3) (fI (t71.getD t73.toNat []) 4)).toList && (w62_1 (fS (ps.getD (fI (t71.getD t73.toNat []) 4).toNat []) 0) (fI (ps.getD (fI (t71.getD t73.toNat []) 4).toNat []) 1) (fI (ps.getD (fI (t71.getD t73.toNat []) 4).toNat []) 2) (fI (ps.getD (fI (t71.getD t73.toNat []) 4).toNat []) 3) (fI (ps.getD (fI (t71.getD t73.toNat []) 4).toNat []) 4) == w63_1 (fS (t71.getD t73.toNat []) 0) (fI (t71.getD t73.toNat []) 1) (fI (t71.getD t73.toNat []) 2) (fI (t71.getD t73.toNat []) 3) (fI (t71.getD t73.toNat []) 4) && (w62_2 (fS (ps.getD (fI (t71.getD t73.toNat []) 4).toNat []) 0) (fI (ps.getD (fI (t71.getD t73.toNat []) 4).toNat []) 1) (fI (ps.getD (fI (t71.getD t73.toNat []) 4).toNat []) 2) (fI (ps.getD (fI (t71.getD t73.toNat []) 4).toNat []) 3) (fI (ps.getD (fI (t71.getD t73.toNat []) 4).toNat []) 4) == w63_2 (fS (t71.getD t73.toNat []) 0) (fI (t71.getD t73.toNat []) 1) (fI (t71.getD t73.toNat []) 2) (fI (t71.getD t73.toNat []) 3) (fI (t71.getD t73.toNat []) 4) && (w62_3 (fS (ps.getD (fI (t71.getD t73.toNat []) 4).toNat []) 0) (fI (ps.getD (fI (t71.getD t73.toNat []) 4).toNat []) 1) (fI (ps.getD (fI (t71.getD t73.toNat []) 4).toNat []) 2) (fI (ps.getD (fI (t71.getD t73.toNat []) 4).toNat []) 3) (fI (ps.getD (fI (t71.getD t73.toNat []) 4).toNat []) 4) == w63_3 (fS (t71.getD t73.toNat []) 0) (fI (t71.getD t73.toNat []) 1) (fI (t71.getD t73.toNat []) 2) (fI (t71.getD t73.toNat []) 3) (fI (t71.getD t73.toNat []) 4) && true))))) (.out (.x0 10 t73)) (.go ⟨IntKind.i64.wrap (t73 + 1)⟩))) (.bad))) (.bad)) (.bad)) (.out (.x1 t73))
noncomputable def o29b_0 (ra : Int) (rb : Int) (rc : Int) (ps : List (List AV)) (t2 : Int) (t71 : List (List AV)) (t72 : Int) (t2' : Int) (t73 : Int) : St :=
  { t := [(1, .rp [.int .i64, .int .i64, .int .i64, .sl 31] [.i .i64 ra, .i .i64 rb, .i .i64 rc, .rs 31 ps] 0), (2, .i .i64 t2'), (71, .rs 31 t71), (72, .i .i64 t72), (73, .i .i64 t73)], m := [], nx := 0, nt := 104 }
noncomputable def o29b_1 (ra : Int) (rb : Int) (rc : Int) (ps : List (List AV)) (t2 : Int) (t71 : List (List AV)) (t72 : Int) (t73 : Int) : St :=
  { t := [(1, .rp [.int .i64, .int .i64, .int .i64, .sl 31] [.i .i64 ra, .i .i64 rb, .i .i64 rc, .rs 31 ps] 0), (2, .i .i64 t2), (71, .rs 31 t71), (72, .i .i64 t72), (73, .i .i64 t73)], m := [], nx := 0, nt := 104 }
noncomputable def ou29b (ra : Int) (rb : Int) (rc : Int) (ps : List (List AV)) (t2 : Int) (t71 : List (List AV)) (t72 : Int) : T29b → Ex × St
  | .x0 t2' t73 => (.ret, o29b_0 ra rb rc ps t2 t71 t72 t2' t73)
  | .x1 t73 => (.ext 4, o29b_1 ra rb rc ps t2 t71 t72 t73)
noncomputable def r29b (ra : Int) (rb : Int) (rc : Int) (ps : List (List AV)) (t2 : Int) (t71 : List (List AV)) (t72 : Int) (t73 : Int) : Option T29b := run (fun x => stp29b ra rb rc ps t2 t71 t72 x.t73) (⟨t73⟩ : S29b)
noncomputable def i29b_0 (ra : Int) (rb : Int) (rc : Int) (ps : List (List AV)) (t2 : Int) (t71 : List (List AV)) (t72 : Int) (t73 : Int) : Bool := match r29b ra rb rc ps t2 t71 t72 t73 with
  | some (.x0 _ _) => true
  | _ => false
noncomputable def v29b_0_t2' (ra : Int) (rb : Int) (rc : Int) (ps : List (List AV)) (t2 : Int) (t71 : List (List AV)) (t72 : Int) (t73 : Int) : Int := match r29b ra rb rc ps t2 t71 t72 t73 with
  | some (.x0 t2' _) => t2'
  | _ => default
noncomputable def v29b_0_t73 (ra : Int) (rb : Int) (rc : Int) (ps : List (List AV)) (t2 : Int) (t71 : List (List AV)) (t72 : Int) (t73 : Int) : Int := match r29b ra rb rc ps t2 t71 t72 t73 with
  | some (.x0 _ t73) => t73
  | _ => default
noncomputable def i29b_1 (ra : Int) (rb : Int) (rc : Int) (ps : List (List AV)) (t2 : Int) (t71 : List (List AV)) (t72 : Int) (t73 : Int) : Bool := match r29b ra rb rc ps t2 t71 t72 t73 with
  | some (.x1 _) => true
  | _ => false
noncomputable def v29b_1_t73 (ra : Int) (rb : Int) (rc : Int) (ps : List (List AV)) (t2 : Int) (t71 : List (List AV)) (t72 : Int) (t73 : Int) : Int := match r29b ra rb rc ps t2 t71 t72 t73 with
  | some (.x1 t73) => t73
  | _ => default
noncomputable def l29b (st : St) : Option (List (Bool × Ex × St)) := match normW Try.prog [(1, none), (2, none), (71, none), (72, none), (73, none)] 0 st with
  | some ([.rp [.int .i64, .int .i64, .int .i64, .sl 31] [.i .i64 ra, .i .i64 rb, .i .i64 rc, .rs 31 ps] 0, .i .i64 t2, .rs 31 t71, .i .i64 t72, .i .i64 t73], [], 0, 104) => some [(i29b_0 ra rb rc ps t2 t71 t72 t73, .ret, o29b_0 ra rb rc ps t2 t71 t72 (v29b_0_t2' ra rb rc ps t2 t71 t72 t73) (v29b_0_t73 ra rb rc ps t2 t71 t72 t73)), (i29b_1 ra rb rc ps t2 t71 t72 t73, .ext 4, o29b_1 ra rb rc ps t2 t71 t72 (v29b_1_t73 ra rb rc ps t2 t71 t72 t73))]
  | _ => none
noncomputable def L29 : LSpec := fun p st => match p with
  | [false, true, false, true, true, true] => l29a st
  | [false, true, false, true, true, true, true] => l29b st
  | _ => none
theorem is29a_0 (ra : Int) (rb : Int) (rc : Int) (ps : List (List AV)) (t2 : Int) (t33 : List (List AV)) (t34 : Int) (t35 : Int) (m24 : List (AV × AV)) (h : i29a_0 ra rb rc ps t2 t33 t34 t35 m24 = true) : r29a ra rb rc ps t2 t33 t34 t35 m24 = some (.x0 (v29a_0_t2' ra rb rc ps t2 t33 t34 t35 m24) (v29a_0_t35 ra rb rc ps t2 t33 t34 t35 m24) (v29a_0_m24 ra rb rc ps t2 t33 t34 t35 m24)) := by
  unfold i29a_0 at h
  unfold v29a_0_t2' v29a_0_t35 v29a_0_m24
  generalize r29a ra rb rc ps t2 t33 t34 t35 m24 = r at h ⊢
  rcases r with _ | y
  · cases h
  · cases y <;> first | rfl | cases h
theorem is29a_1 (ra : Int) (rb : Int) (rc : Int) (ps : List (List AV)) (t2 : Int) (t33 : List (List AV)) (t34 : Int) (t35 : Int) (m24 : List (AV × AV)) (h : i29a_1 ra rb rc ps t2 t33 t34 t35 m24 = true) : r29a ra rb rc ps t2 t33 t34 t35 m24 = some (.x1 (v29a_1_t35 ra rb rc ps t2 t33 t34 t35 m24) (v29a_1_m24 ra rb rc ps t2 t33 t34 t35 m24)) := by
  unfold i29a_1 at h
  unfold v29a_1_t35 v29a_1_m24
  generalize r29a ra rb rc ps t2 t33 t34 t35 m24 = r at h ⊢
  rcases r with _ | y
  · cases h
  · cases y <;> first | rfl | cases h
theorem round29a (ra : Int) (rb : Int) (rc : Int) (ps : List (List AV)) (t2 : Int) (t33 : List (List AV)) (t34 : Int) (t35 : Int) (m24 : List (AV × AV)) : round Try.prog SS5 (ro 29) L29 lp29a [false, true, false, true, true, true] [(1, none), (2, none), (3, none), (33, none), (34, none), (35, none)] 25 (s29a ra rb rc ps t2 t33 t34 t35 m24) =
    cond (decide (t35 < t34)) (cond (inb t35 t33.length) (cond (g61 (fS (t33.getD t35.toNat []) 0)) (cond (!w61_0 (fS (t33.getD t35.toNat []) 0)) (some (.ret, o29a_0 ra rb rc ps t2 t33 t34 5 t35 m24)) (cond (toB ((mget (AV.s (fS (t33.getD t35.toNat []) 0)) m24).getD (AV.b false))) (some (.ret, o29a_0 ra rb rc ps t2 t33 t34 6 t35 m24)) (cond (g55 (fI (t33.getD t35.toNat []) 1) 1 2000) (cond (!w55_0 (fI (t33.getD t35.toNat []) 1) 1 2000) (some (.ret, o29a_0 ra rb rc ps t2 t33 t34 1 t35 m24)) (cond (g55 (fI (t33.getD t35.toNat []) 2) 0 9) (cond (!w55_0 (fI (t33.getD t35.toNat []) 2) 0 9) (some (.ret, o29a_0 ra rb rc ps t2 t33 t34 1 t35 m24)) (cond (g55 (fI (t33.getD t35.toNat []) 3) 0 9) (cond (!w55_0 (fI (t33.getD t35.toNat []) 3) 0 9) (some (.ret, o29a_0 ra rb rc ps t2 t33 t34 1 t35 m24)) (some (.nrm, s29a ra rb rc ps t2 t33 t34 (IntKind.i64.wrap (t35 + 1)) (mset (AV.s (fS (t33.getD t35.toNat []) 0)) (AV.b true) m24)))) (none))) (none))) (none)))) (none)) (none)) (some (.ext 1, o29a_1 ra rb rc ps t2 t33 t34 t35 m24)) := by kernel_rfl
theorem rnd29a (ra : Int) (rb : Int) (rc : Int) (ps : List (List AV)) (t2 : Int) (t33 : List (List AV)) (t34 : Int) (x : S29a) : round Try.prog SS5 (ro 29) L29 lp29a [false, true, false, true, true, true] [(1, none), (2, none), (3, none), (33, none), (34, none), (35, none)] 25 ((fun x => s29a ra rb rc ps t2 t33 t34 x.t35 x.m24) x) = toR (fun x => s29a ra rb rc ps t2 t33 t34 x.t35 x.m24) (ou29a ra rb rc ps t2 t33 t34) (stp29a ra rb rc ps t2 t33 t34 x.t35 x.m24) := by
  refine (round29a _ _ _ _ _ _ _ _ _ ).trans ?_
  unfold stp29a
  simp only [toR_cond]
  rfl
theorem lok29a {st : St} {outs : List (Bool × Ex × St)} {e : Ex} {s : St} (hl : l29a st = some outs) (hch : Chosen outs e s) :
    ∃ keep nb, 0 ≤ nb ∧ LB Try.prog SS5 (ro 29) L29 lp29a [false, true, false, true, true, true] keep nb st e s := by
  unfold l29a at hl
  split at hl
  · rename_i ra rb rc ps t2 t33 t34 t35 m24 hno
    cases hl
    have hno := normW_norm hno
    refine ⟨_, _, ?_, .enter hno ?_⟩
    · decide
    have main := fun y h => LB_run (x := (⟨t35, m24⟩ : S29a)) (y := y) (nb := 25) (fun y => by cases y <;> simp [ou29a]) (rnd29a ra rb rc ps t2 t33 t34) h
    obtain ⟨x, hx, hg, rfl, rfl⟩ := chosen_any hch
    simp only [List.mem_cons, List.not_mem_nil, or_false] at hx
    rcases hx with rfl | rfl
    · exact main _ (is29a_0 ra rb rc ps t2 t33 t34 t35 m24 hg)
    · exact main _ (is29a_1 ra rb rc ps t2 t33 t34 t35 m24 hg)
  · cases hl
theorem is29b_0 (ra : Int) (rb : Int) (rc : Int) (ps : List (List AV)) (t2 : Int) (t71 : List (List AV)) (t72 : Int) (t73 : Int) (h : i29b_0 ra rb rc ps t2 t71 t72 t73 = true) : r29b ra rb rc ps t2 t71 t72 t73 = some (.x0 (v29b_0_t2' ra rb rc ps t2 t71 t72 t73) (v29b_0_t73 ra rb rc ps t2 t71 t72 t73)) := by
  unfold i29b_0 at h
  unfold v29b_0_t2' v29b_0_t73
  generalize r29b ra rb rc ps t2 t71 t72 t73 = r at h ⊢
  rcases r with _ | y
  · cases h
  · cases y <;> first | rfl | cases h
theorem is29b_1 (ra : Int) (rb : Int) (rc : Int) (ps : List (List AV)) (t2 : Int) (t71 : List (List AV)) (t72 : Int) (t73 : Int) (h : i29b_1 ra rb rc ps t2 t71 t72 t73 = true) : r29b ra rb rc ps t2 t71 t72 t73 = some (.x1 (v29b_1_t73 ra rb rc ps t2 t71 t72 t73)) := by
  unfold i29b_1 at h
  unfold v29b_1_t73
  generalize r29b ra rb rc ps t2 t71 t72 t73 = r at h ⊢
  rcases r with _ | y
  · cases h
  · cases y <;> first | rfl | cases h
theorem round29b (ra : Int) (rb : Int) (rc : Int) (ps : List (List AV)) (t2 : Int) (t71 : List (List AV)) (t72 : Int) (t73 : Int) : round Try.prog SS5 (ro 29) L29 lp29b [false, true, false, true, true, true, true] [(1, none), (2, none), (71, none), (72, none), (73, none)] 0 (s29b ra rb rc ps t2 t71 t72 t73) =
    cond (decide (t73 < t72)) (cond (inb t73 t71.length) (cond (g55 (fI (t71.getD t73.toNat []) 4) 0 (IntKind.i64.wrap ((↑ps.length : Int) - 1))) (cond (!w55_0 (fI (t71.getD t73.toNat []) 4) 0 (IntKind.i64.wrap ((↑ps.length : Int) - 1))) (some (.ret, o29b_0 ra rb rc ps t2 t71 t72 7 t73)) (cond (inb (fI (t71.getD t73.toNat []) 4) ps.length) (cond (fI (ps.getD (fI (t71.getD t73.toNat []) 4).toNat []) 4 != t73) (some (.ret, o29b_0 ra rb rc ps t2 t71 t72 10 t73)) (cond (!((w62_0 (fS (ps.getD (fI (t71.getD t73.toNat []) 4).toNat []) 0) (fI (ps.getD (fI (t71.getD t73.toNat []) 4).toNat []) 1) (fI (ps.getD (fI (t71.getD t73.toNat []) 4).toNat []) 2) (fI (ps.getD (fI (t71.getD t73.toNat []) 4).toNat []) 3) (fI (ps.getD (fI (t71.getD t73.toNat []) 4).toNat []) 4)).toList == (w63_0 (fS (t71.getD t73.toNat []) 0) (fI (t71.getD t73.toNat []) 1) (fI (t71.getD t73.toNat []) 2) (fI (t71.getD t73.toNat []) 3) (fI (t71.getD t73.toNat []) 4)).toList && (w62_1 (fS (ps.getD (fI (t71.getD t73.toNat []) 4).toNat []) 0) (fI (ps.getD (fI (t71.getD t73.toNat []) 4).toNat []) 1) (fI (ps.getD (fI (t71.getD t73.toNat []) 4).toNat []) 2) (fI (ps.getD (fI (t71.getD t73.toNat []) 4).toNat []) 3) (fI (ps.getD (fI (t71.getD t73.toNat []) 4).toNat []) 4) == w63_1 (fS (t71.getD t73.toNat []) 0) (fI (t71.getD t73.toNat []) 1) (fI (t71.getD t73.toNat []) 2) (fI (t71.getD t73.toNat []) 3) (fI (t71.getD t73.toNat []) 4) && (w62_2 (fS (ps.getD (fI (t71.getD t73.toNat []) 4).toNat []) 0) (fI (ps.getD (fI (t71.getD t73.toNat []) 4).toNat []) 1) (fI (ps.getD (fI (t71.getD t73.toNat []) 4).toNat []) 2) (fI (ps.getD (fI (t71.getD t73.toNat []) 4).toNat []) 3) (fI (ps.getD (fI (t71.getD t73.toNat []) 4).toNat []) 4) == w63_2 (fS (t71.getD t73.toNat []) 0) (fI (t71.getD t73.toNat []) 1) (fI (t71.getD t73.toNat []) 2) (fI (t71.getD t73.toNat []) 3) (fI (t71.getD t73.toNat []) 4) && (w62_3 (fS (ps.getD (fI (t71.getD t73.toNat []) 4).toNat []) 0) (fI (ps.getD (fI (t71.getD t73.toNat []) 4).toNat []) 1) (fI (ps.getD (fI (t71.getD t73.toNat []) 4).toNat []) 2) (fI (ps.getD (fI (t71.getD t73.toNat []) 4).toNat []) 3) (fI (ps.getD (fI (t71.getD t73.toNat []) 4).toNat []) 4) == w63_3 (fS (t71.getD t73.toNat []) 0) (fI (t71.getD t73.toNat []) 1) (fI (t71.getD t73.toNat []) 2) (fI (t71.getD t73.toNat []) 3) (fI (t71.getD t73.toNat []) 4) && true))))) (some (.ret, o29b_0 ra rb rc ps t2 t71 t72 10 t73)) (some (.nrm, s29b ra rb rc ps t2 t71 t72 (IntKind.i64.wrap (t73 + 1)))))) (none))) (none)) (none)) (some (.ext 4, o29b_1 ra rb rc ps t2 t71 t72 t73)) := by kernel_rfl
theorem rnd29b (ra : Int) (rb : Int) (rc : Int) (ps : List (List AV)) (t2 : Int) (t71 : List (List AV)) (t72 : Int) (x : S29b) : round Try.prog SS5 (ro 29) L29 lp29b [false, true, false, true, true, true, true] [(1, none), (2, none), (71, none), (72, none), (73, none)] 0 ((fun x => s29b ra rb rc ps t2 t71 t72 x.t73) x) = toR (fun x => s29b ra rb rc ps t2 t71 t72 x.t73) (ou29b ra rb rc ps t2 t71 t72) (stp29b ra rb rc ps t2 t71 t72 x.t73) := by
  refine (round29b _ _ _ _ _ _ _ _ ).trans ?_
  unfold stp29b
  simp only [toR_cond]
  rfl
theorem lok29b {st : St} {outs : List (Bool × Ex × St)} {e : Ex} {s : St} (hl : l29b st = some outs) (hch : Chosen outs e s) :
    ∃ keep nb, 0 ≤ nb ∧ LB Try.prog SS5 (ro 29) L29 lp29b [false, true, false, true, true, true, true] keep nb st e s := by
  unfold l29b at hl
  split at hl
  · rename_i ra rb rc ps t2 t71 t72 t73 hno
    cases hl
    have hno := normW_norm hno
    refine ⟨_, _, ?_, .enter hno ?_⟩
    · decide
    have main := fun y h => LB_run (x := (⟨t73⟩ : S29b)) (y := y) (nb := 0) (fun y => by cases y <;> simp [ou29b]) (rnd29b ra rb rc ps t2 t71 t72) h
    obtain ⟨x, hx, hg, rfl, rfl⟩ := chosen_any hch
    simp only [List.mem_cons, List.not_mem_nil, or_false] at hx
    rcases hx with rfl | rfl
    · exact main _ (is29b_0 ra rb rc ps t2 t71 t72 t73 hg)
    · exact main _ (is29b_1 ra rb rc ps t2 t71 t72 t73 hg)
  · cases hl
theorem L29_ok (q : Pl) (c : Code) (hq : locate c29 q.reverse = some (.loop c)) (st : St) (outs : List (Bool × Ex × St)) (e : Ex) (s : St) (hl : L29 q st = some outs) (hch : Chosen outs e s) :
    ∃ keep nb, 0 ≤ nb ∧ LB Try.prog SS5 (ro 29) L29 c q keep nb st e s := by
  unfold L29 at hl
  split at hl
  · have : locate c29 ([false, true, false, true, true, true] : Pl).reverse = some (.loop lp29a) := by kernel_rfl
    rw [this] at hq
    cases hq
    exact lok29a hl hch
  · have : locate c29 ([false, true, false, true, true, true, true] : Pl).reverse = some (.loop lp29b) := by kernel_rfl
    rw [this] at hq
    cases hq
    exact lok29b hl hch
  · cases hl
theorem lok29 : LOK Try.prog SS5 (ro 29) L29 0 false c29 [] :=
  lok_lo L29_ok c29 [] false (locate_nil _) (by kernel_rfl)
noncomputable def t29 (ra rb rc : Int) (ps : List (List AV)) : Tr ((Int)) :=
  .cn (g55 ra 0 2000) (.cn (!w55_0 ra 0 2000) (.lf (1)) (.cn (g55 rb 0 9) (.cn (!w55_0 rb 0 9) (.lf (1)) (.cn (g55 rc 0 9) (.cn (!w55_0 rc 0 9) (.lf (1)) (.cn (decide ((↑ps.length : Int) > 10)) (.lf (3)) (.cn (i29a_0 ra rb rc ps 0 ps (↑ps.length : Int) 0 []) (.lf (v29a_0_t2' ra rb rc ps 0 ps (↑ps.length : Int) 0 [])) (.cn (i29a_1 ra rb rc ps 0 ps (↑ps.length : Int) 0 []) (.cn (i29b_0 ra rb rc ps 0 ps (↑ps.length : Int) 0) (.lf (v29b_0_t2' ra rb rc ps 0 ps (↑ps.length : Int) 0)) (.cn (i29b_1 ra rb rc ps 0 ps (↑ps.length : Int) 0) (.lf (0)) (.nn))) (.nn))))) (.nn))) (.nn))) (.nn)
noncomputable def g29 (ra rb rc : Int) (ps : List (List AV)) : Bool := (t29 ra rb rc ps).g
noncomputable def w29_0 (ra rb rc : Int) (ps : List (List AV)) : Int := (t29 ra rb rc ps).val
theorem eq29 (ra rb rc : Int) (ps : List (List AV)) : evF Try.prog SS5 (ro 29) L29 Try.f29 [.agg [.i .i64 ra, .i .i64 rb, .i .i64 rc, .rs 31 ps]] = (t29 ra rb rc ps).opt (fun (x : (Int)) => (.i .i64 x : AV)) := by kernel_rfl
theorem con29 (ra rb rc : Int) (ps : List (List AV)) (h : g29 ra rb rc ps = true) : Con Try.prog 29 [.agg [.i .i64 ra, .i .i64 rb, .i .i64 rc, .rs 31 ps]] [] (.i .i64 (w29_0 ra rb rc ps)) [] :=
  con_of SS5_ok mixed Try.func29 (c := c29) rfl (names 29 _ Try.func29) lok29 ((eq29 ra rb rc ps).trans (Tr.sound _ _ h))
noncomputable def e29 (args : List AV) (rows : List Blk) : Option (Bool × AV × List Blk) := match args, rows with
  | [.agg [.i .i64 ra, .i .i64 rb, .i .i64 rc, .rs 31 ps]], [] => some (g29 ra rb rc ps, .i .i64 (w29_0 ra rb rc ps), [])
  | _, _ => none
theorem e29_ok (args : List AV) (rows : List Blk) (pre : Bool) (v : AV) (rows' : List Blk) (h : e29 args rows = some (pre, v, rows')) (hp : pre = true) : Con Try.prog 29 args rows v rows' := by
  unfold e29 at h
  split at h
  · cases h; exact con29 _ _ _ _ hp
  · cases h
-- SPEC 29
end Go.Proofs.Ytgifjphinkbcaaa

set_option maxRecDepth 100000
set_option linter.unusedVariables false
namespace Go.Proofs.Ytgifjphinkbcaaa
open Go Go.Ev
noncomputable def SS6 : Ev.Spec := insS 71 e71 (S0)
theorem SS6_ok : SpecOK Try.prog SS6 := insS_ok e71_ok (S0_ok)
end Go.Proofs.Ytgifjphinkbcaaa

set_option maxRecDepth 100000
set_option maxHeartbeats 0
set_option linter.unusedVariables false
namespace Go.Proofs.Ytgifjphinkbcaaa
open Go Go.Ev

/-! ### count -/
noncomputable def c81 : Code := match Try.f81.body with | some c => c | _ => .skip
noncomputable def lp81a : Code := loopAt c81 [true, true, true, false, true, false]
noncomputable def s81a (ra : Int) (rb : Int) (rc : Int) (ps : List (List AV)) (t3 : Nat) (t4 : Int) (m5 : List (List AV)) : St :=
  { t := [(1, .rp [.int .i64, .int .i64, .int .i64, .sl 31] [.i .i64 ra, .i .i64 rb, .i .i64 rc, .rs 31 ps] 0), (2, .nl), (3, .sl 5 0 t3), (4, .i .i64 t4)], m := [(0, .dead), (1, .dead), (2, .dead), (3, .dead), (4, .dead), (5, .row 91 m5)], nx := 6, nt := 66 }
noncomputable def lp81aa : Code := loopAt c81 [true, true, true, false, true, false, false, true, false, false, true, false]
noncomputable def s81aa (ra : Int) (rb : Int) (rc : Int) (ps : List (List AV)) (t3 : Nat) (t4 : Int) (t25 : List (List AV)) (t26 : Int) (t27 : Int) (m5 : List (List AV)) : St :=
  { t := [(1, .rp [.int .i64, .int .i64, .int .i64, .sl 31] [.i .i64 ra, .i .i64 rb, .i .i64 rc, .rs 31 ps] 0), (2, .nl), (3, .sl 5 0 t3), (4, .i .i64 t4), (25, .rs 31 t25), (26, .i .i64 t26), (27, .i .i64 t27)], m := [(0, .dead), (1, .dead), (2, .dead), (3, .dead), (4, .dead), (5, .row 91 m5)], nx := 6, nt := 66 }
structure S81aa where
  t27 : Int
  m5 : List (List AV)
inductive T81aa where
  | x0 (t27 : Int) (m5 : List (List AV))
noncomputable def stp81aa (ra : Int) (rb : Int) (rc : Int) (ps : List (List AV)) (t3 : Nat) (t4 : Int) (t25 : List (List AV)) (t26 : Int) (t27 : Int) (m5 : List (List AV)) : Lp S81aa T81aa :=
  cond (decide (t27 < t26)) (cond (inb t27 t25.length) (cond (g71 t4 (fI (t25.getD t27.toNat []) 2) (fS (t25.getD t27.toNat []) 0) (fI (t25.getD t27.toNat []) 1) (fI (t25.getD t27.toNat []) 2) (fI (t25.getD t27.toNat []) 3) (fI (t25.getD t27.toNat []) 4)) (cond (w71_2 t4 (fI (t25.getD t27.toNat []) 2) (fS (t25.getD t27.toNat []) 0) (fI (t25.getD t27.toNat []) 1) (fI (t25.getD t27.toNat []) 2) (fI (t25.getD t27.toNat []) 3) (fI (t25.getD t27.toNat []) 4)) (cond (inb t4 t3 && (0 + t4.toNat).blt m5.length) (cond (inb (fI (t25.getD t27.toNat []) 2) 10) (cond (ctsAt (cts Try.prog 91) (0 + (fI (t25.getD t27.toNat []) 2).toNat * 1) (cts Try.prog 3) && (0 + t4.toNat).blt m5.length) (cond (inb (w71_0 t4 (fI (t25.getD t27.toNat []) 2) (fS (t25.getD t27.toNat []) 0) (fI (t25.getD t27.toNat []) 1) (fI (t25.getD t27.toNat []) 2) (fI (t25.getD t27.toNat []) 3) (fI (t25.getD t27.toNat []) 4)) t3 && (0 + (w71_0 t4 (fI (t25.getD t27.toNat []) 2) (fS (t25.getD t27.toNat []) 0) (fI (t25.getD t27.toNat []) 1) (fI (t25.getD t27.toNat []) 2) (fI (t25.getD t27.toNat []) 3) (fI (t25.getD t27.toNat []) 4)).toNat).blt m5.length) (cond (inb (w71_1 t4 (fI (t25.getD t27.toNat []) 2) (fS (t25.getD t27.toNat []) 0) (fI (t25.getD t27.toNat []) 1) (fI (t25.getD t27.toNat []) 2) (fI (t25.getD t27.toNat []) 3) (fI (t25.getD t27.toNat []) 4)) 10) (cond (ctsAt (cts Try.prog 91) (0 + (w71_1 t4 (fI (t25.getD t27.toNat []) 2) (fS (t25.getD t27.toNat []) 0) (fI (t25.getD t27.toNat []) 1) (fI (t25.getD t27.toNat []) 2) (fI (t25.getD t27.toNat []) 3) (fI (t25.getD t27.toNat []) 4)).toNat * 1) (cts Try.prog 3) && (0 + (w71_0 t4 (fI (t25.getD t27.toNat []) 2) (fS (t25.getD t27.toNat []) 0) (fI (t25.getD t27.toNat []) 1) (fI (t25.getD t27.toNat []) 2) (fI (t25.getD t27.toNat []) 3) (fI (t25.getD t27.toNat []) 4)).toNat).blt m5.length) (cond (inb t4 t3 && (0 + t4.toNat).blt m5.length) (cond (inb (fI (t25.getD t27.toNat []) 2) 10) (cond (ctsAt (cts Try.prog 91) (0 + (fI (t25.getD t27.toNat []) 2).toNat * 1) (cts Try.prog 3) && (0 + t4.toNat).blt m5.length) (.go ⟨IntKind.i64.wrap (t27 + 1), m5.set (0 + t4.toNat) (setCs (m5.getD (0 + t4.toNat) []) (0 + (fI (t25.getD t27.toNat []) 2).toNat * 1) [AV.i IntKind.i64 (bmin (IntKind.i64.wrap (toI ((m5.getD (0 + t4.toNat) []).getD (0 + (fI (t25.getD t27.toNat []) 2).toNat * 1) AV.u) + toI ((m5.getD (0 + (w71_0 t4 (fI (t25.getD t27.toNat []) 2) (fS (t25.getD t27.toNat []) 0) (fI (t25.getD t27.toNat []) 1) (fI (t25.getD t27.toNat []) 2) (fI (t25.getD t27.toNat []) 3) (fI (t25.getD t27.toNat []) 4)).toNat) []).getD (0 + (w71_1 t4 (fI (t25.getD t27.toNat []) 2) (fS (t25.getD t27.toNat []) 0) (fI (t25.getD t27.toNat []) 1) (fI (t25.getD t27.toNat []) 2) (fI (t25.getD t27.toNat []) 3) (fI (t25.getD t27.toNat []) 4)).toNat * 1) AV.u))) 1000000000000001)])⟩) (.bad)) (.bad)) (.bad)) (.bad)) (.bad)) (.bad)) (.bad)) (.bad)) (.bad)) (.go ⟨IntKind.i64.wrap (t27 + 1), m5⟩)) (.bad)) (.bad)) (.out (.x0 t27 m5))
noncomputable def o81aa_0 (ra : Int) (rb : Int) (rc : Int) (ps : List (List AV)) (t3 : Nat) (t4 : Int) (t25 : List (List AV)) (t26 : Int) (t27 : Int) (m5 : List (List AV)) : St :=
  { t := [(1, .rp [.int .i64, .int .i64, .int .i64, .sl 31] [.i .i64 ra, .i .i64 rb, .i .i64 rc, .rs 31 ps] 0), (2, .nl), (3, .sl 5 0 t3), (4, .i .i64 t4), (25, .rs 31 t25), (26, .i .i64 t26), (27, .i .i64 t27)], m := [(0, .dead), (1, .dead), (2, .dead), (3, .dead), (4, .dead), (5, .row 91 m5)], nx := 6, nt := 66 }
noncomputable def ou81aa (ra : Int) (rb : Int) (rc : Int) (ps : List (List AV)) (t3 : Nat) (t4 : Int) (t25 : List (List AV)) (t26 : Int) : T81aa → Ex × St
  | .x0 t27 m5 => (.ext 2, o81aa_0 ra rb rc ps t3 t4 t25 t26 t27 m5)
noncomputable def r81aa (ra : Int) (rb : Int) (rc : Int) (ps : List (List AV)) (t3 : Nat) (t4 : Int) (t25 : List (List AV)) (t26 : Int) (t27 : Int) (m5 : List (List AV)) : Option T81aa := run (fun x => stp81aa ra rb rc ps t3 t4 t25 t26 x.t27 x.m5) (⟨t27, m5⟩ : S81aa)
noncomputable def i81aa_0 (ra : Int) (rb : Int) (rc : Int) (ps : List (List AV)) (t3 : Nat) (t4 : Int) (t25 : List (List AV)) (t26 : Int) (t27 : Int) (m5 : List (List AV)) : Bool := match r81aa ra rb rc ps t3 t4 t25 t26 t27 m5 with
  | some (.x0 _ _) => true
  | _ => false
noncomputable def v81aa_0_t27 (ra : Int) (rb : Int) (rc : Int) (ps : List (List AV)) (t3 : Nat) (t4 : Int) (t25 : List (List AV)) (t26 : Int) (t27 : Int) (m5 : List (List AV)) : Int := match r81aa ra rb rc ps t3 t4 t25 t26 t27 m5 with
  | some (.x0 t27 _) => t27
  | _ => default
noncomputable def v81aa_0_m5 (ra : Int) (rb : Int) (rc : Int) (ps : List (List AV)) (t3 : Nat) (t4 : Int) (t25 : List (List AV)) (t26 : Int) (t27 : Int) (m5 : List (List AV)) : List (List AV) := match r81aa ra rb rc ps t3 t4 t25 t26 t27 m5 with
  | some (.x0 _ m5) => m5
  | _ => default
noncomputable def l81aa (st : St) : Option (List (Bool × Ex × St)) := match normW Try.prog [(1, none), (2, none), (3, none), (4, none), (25, none), (26, none), (27, none)] 6 st with
  | some ([.rp [.int .i64, .int .i64, .int .i64, .sl 31] [.i .i64 ra, .i .i64 rb, .i .i64 rc, .rs 31 ps] 0, .nl, .sl 5 0 t3, .i .i64 t4, .rs 31 t25, .i .i64 t26, .i .i64 t27], [(0, .dead), (1, .dead), (2, .dead), (3, .dead), (4, .dead), (5, .row 91 m5)], 6, 66) => some [(i81aa_0 ra rb rc ps t3 t4 t25 t26 t27 m5, .ext 2, o81aa_0 ra rb rc ps t3 t4 t25 t26 (v81aa_0_t27 ra rb rc ps t3 t4 t25 t26 t27 m5) (v81aa_0_m5 ra rb rc ps t3 t4 t25 t26 t27 m5))]
  | _ => none
structure S81a where
  t4 : Int
  m5 : List (List AV)
inductive T81a where
  | x0 (t4 : Int) (m5 : List (List AV))
noncomputable def stp81a (ra : Int) (rb : Int) (rc : Int) (ps : List (List AV)) (t3 : Nat) (t4 : Int) (m5 : List (List AV)) : Lp S81a T81a :=
  cond (decide (t4 ≤ ra)) (cond (i81aa_0 ra rb rc ps t3 t4 ps (↑ps.length : Int) 0 m5) (.go ⟨IntKind.i64.wrap (t4 + 1), v81aa_0_m5 ra rb rc ps t3 t4 ps (↑ps.length : Int) 0 m5⟩) (.bad)) (.out (.x0 t4 m5))
noncomputable def o81a_0 (ra : Int) (rb : Int) (rc : Int) (ps : List (List AV)) (t3 : Nat) (t4 : Int) (m5 : List (List AV)) : St :=
  { t := [(1, .rp [.int .i64, .int .i64, .int .i64, .sl 31] [.i .i64 ra, .i .i64 rb, .i .i64 rc, .rs 31 ps] 0), (2, .nl), (3, .sl 5 0 t3), (4, .i .i64 t4)], m := [(0, .dead), (1, .dead), (2, .dead), (3, .dead), (4, .dead), (5, .row 91 m5)], nx := 6, nt := 66 }
noncomputable def ou81a (ra : Int) (rb : Int) (rc : Int) (ps : List (List AV)) (t3 : Nat) : T81a → Ex × St
  | .x0 t4 m5 => (.ext 0, o81a_0 ra rb rc ps t3 t4 m5)
noncomputable def r81a (ra : Int) (rb : Int) (rc : Int) (ps : List (List AV)) (t3 : Nat) (t4 : Int) (m5 : List (List AV)) : Option T81a := run (fun x => stp81a ra rb rc ps t3 x.t4 x.m5) (⟨t4, m5⟩ : S81a)
noncomputable def i81a_0 (ra : Int) (rb : Int) (rc : Int) (ps : List (List AV)) (t3 : Nat) (t4 : Int) (m5 : List (List AV)) : Bool := match r81a ra rb rc ps t3 t4 m5 with
  | some (.x0 _ _) => true
  | _ => false
noncomputable def v81a_0_t4 (ra : Int) (rb : Int) (rc : Int) (ps : List (List AV)) (t3 : Nat) (t4 : Int) (m5 : List (List AV)) : Int := match r81a ra rb rc ps t3 t4 m5 with
  | some (.x0 t4 _) => t4
  | _ => default
noncomputable def v81a_0_m5 (ra : Int) (rb : Int) (rc : Int) (ps : List (List AV)) (t3 : Nat) (t4 : Int) (m5 : List (List AV)) : List (List AV) := match r81a ra rb rc ps t3 t4 m5 with
  | some (.x0 _ m5) => m5
  | _ => default
noncomputable def l81a (st : St) : Option (List (Bool × Ex × St)) := match normW Try.prog [(1, none), (2, none), (3, none), (4, none)] 6 st with
  | some ([.rp [.int .i64, .int .i64, .int .i64, .sl 31] [.i .i64 ra, .i .i64 rb, .i .i64 rc, .rs 31 ps] 0, .nl, .sl 5 0 t3, .i .i64 t4], [(0, .dead), (1, .dead), (2, .dead), (3, .dead), (4, .dead), (5, .row 91 m5)], 6, 66) => some [(i81a_0 ra rb rc ps t3 t4 m5, .ext 0, o81a_0 ra rb rc ps t3 (v81a_0_t4 ra rb rc ps t3 t4 m5) (v81a_0_m5 ra rb rc ps t3 t4 m5))]
  | _ => none
noncomputable def L81 : LSpec := fun p st => match p with
  | [false, true, false, false, true, false, false, true, false, true, true, true] => l81aa st
  | [false, true, false, true, true, true] => l81a st
  | _ => none
theorem is81aa_0 (ra : Int) (rb : Int) (rc : Int) (ps : List (List AV)) (t3 : Nat) (t4 : Int) (t25 : List (List AV)) (t26 : Int) (t27 : Int) (m5 : List (List AV)) (h : i81aa_0 ra rb rc ps t3 t4 t25 t26 t27 m5 = true) : r81aa ra rb rc ps t3 t4 t25 t26 t27 m5 = some (.x0 (v81aa_0_t27 ra rb rc ps t3 t4 t25 t26 t27 m5) (v81aa_0_m5 ra rb rc ps t3 t4 t25 t26 t27 m5)) := by
  unfold i81aa_0 at h
  unfold v81aa_0_t27 v81aa_0_m5
  generalize r81aa ra rb rc ps t3 t4 t25 t26 t27 m5 = r at h ⊢
  rcases r with _ | y
  · cases h
  · cases y <;> first | rfl | cases h
theorem round81aa (ra : Int) (rb : Int) (rc : Int) (ps : List (List AV)) (t3 : Nat) (t4 : Int) (t25 : List (List AV)) (t26 : Int) (t27 : Int) (m5 : List (List AV)) : round Try.prog SS6 (ro 81) L81 lp81aa [false, true, false, false, true, false, false, true, false, true, true, true] [(1, none), (2, none), (3, none), (4, none), (25, none), (26, none), (27, none)] 6 (s81aa ra rb rc ps t3 t4 t25 t26 t27 m5) =
    cond (decide (t27 < t26)) (cond (inb t27 t25.length) (cond (g71 t4 (fI (t25.getD t27.toNat []) 2) (fS (t25.getD t27.toNat []) 0) (fI (t25.getD t27.toNat []) 1) (fI (t25.getD t27.toNat []) 2) (fI (t25.getD t27.toNat []) 3) (fI (t25.getD t27.toNat []) 4)) (cond (w71_2 t4 (fI (t25.getD t27.toNat []) 2) (fS (t25.getD t27.toNat []) 0) (fI (t25.getD t27.toNat []) 1) (fI (t25.getD t27.toNat []) 2) (fI (t25.getD t27.toNat []) 3) (fI (t25.getD t27.toNat []) 4)) (cond (inb t4 t3 && (0 + t4.toNat).blt m5.length) (cond (inb (fI (t25.getD t27.toNat []) 2) 10) (cond (ctsAt (cts Try.prog 91) (0 + (fI (t25.getD t27.toNat []) 2).toNat * 1) (cts Try.prog 3) && (0 + t4.toNat).blt m5.length) (cond (inb (w71_0 t4 (fI (t25.getD t27.toNat []) 2) (fS (t25.getD t27.toNat []) 0) (fI (t25.getD t27.toNat []) 1) (fI (t25.getD t27.toNat []) 2) (fI (t25.getD t27.toNat []) 3) (fI (t25.getD t27.toNat []) 4)) t3 && (0 + (w71_0 t4 (fI (t25.getD t27.toNat []) 2) (fS (t25.getD t27.toNat []) 0) (fI (t25.getD t27.toNat []) 1) (fI (t25.getD t27.toNat []) 2) (fI (t25.getD t27.toNat []) 3) (fI (t25.getD t27.toNat []) 4)).toNat).blt m5.length) (cond (inb (w71_1 t4 (fI (t25.getD t27.toNat []) 2) (fS (t25.getD t27.toNat []) 0) (fI (t25.getD t27.toNat []) 1) (fI (t25.getD t27.toNat []) 2) (fI (t25.getD t27.toNat []) 3) (fI (t25.getD t27.toNat []) 4)) 10) (cond (ctsAt (cts Try.prog 91) (0 + (w71_1 t4 (fI (t25.getD t27.toNat []) 2) (fS (t25.getD t27.toNat []) 0) (fI (t25.getD t27.toNat []) 1) (fI (t25.getD t27.toNat []) 2) (fI (t25.getD t27.toNat []) 3) (fI (t25.getD t27.toNat []) 4)).toNat * 1) (cts Try.prog 3) && (0 + (w71_0 t4 (fI (t25.getD t27.toNat []) 2) (fS (t25.getD t27.toNat []) 0) (fI (t25.getD t27.toNat []) 1) (fI (t25.getD t27.toNat []) 2) (fI (t25.getD t27.toNat []) 3) (fI (t25.getD t27.toNat []) 4)).toNat).blt m5.length) (cond (inb t4 t3 && (0 + t4.toNat).blt m5.length) (cond (inb (fI (t25.getD t27.toNat []) 2) 10) (cond (ctsAt (cts Try.prog 91) (0 + (fI (t25.getD t27.toNat []) 2).toNat * 1) (cts Try.prog 3) && (0 + t4.toNat).blt m5.length) (some (.nrm, s81aa ra rb rc ps t3 t4 t25 t26 (IntKind.i64.wrap (t27 + 1)) (m5.set (0 + t4.toNat) (setCs (m5.getD (0 + t4.toNat) []) (0 + (fI (t25.getD t27.toNat []) 2).toNat * 1) [AV.i IntKind.i64 (bmin (IntKind.i64.wrap (toI ((m5.getD (0 + t4.toNat) []).getD (0 + (fI (t25.getD t27.toNat []) 2).toNat * 1) AV.u) + toI ((m5.getD (0 + (w71_0 t4 (fI (t25.getD t27.toNat []) 2) (fS (t25.getD t27.toNat []) 0) (fI (t25.getD t27.toNat []) 1) (fI (t25.getD t27.toNat []) 2) (fI (t25.getD t27.toNat []) 3) (fI (t25.getD t27.toNat []) 4)).toNat) []).getD (0 + (w71_1 t4 (fI (t25.getD t27.toNat []) 2) (fS (t25.getD t27.toNat []) 0) (fI (t25.getD t27.toNat []) 1) (fI (t25.getD t27.toNat []) 2) (fI (t25.getD t27.toNat []) 3) (fI (t25.getD t27.toNat []) 4)).toNat * 1) AV.u))) 1000000000000001)])))) (none)) (none)) (none)) (none)) (none)) (none)) (none)) (none)) (none)) (some (.nrm, s81aa ra rb rc ps t3 t4 t25 t26 (IntKind.i64.wrap (t27 + 1)) m5))) (none)) (none)) (some (.ext 2, o81aa_0 ra rb rc ps t3 t4 t25 t26 t27 m5)) := by kernel_rfl
theorem rnd81aa (ra : Int) (rb : Int) (rc : Int) (ps : List (List AV)) (t3 : Nat) (t4 : Int) (t25 : List (List AV)) (t26 : Int) (x : S81aa) : round Try.prog SS6 (ro 81) L81 lp81aa [false, true, false, false, true, false, false, true, false, true, true, true] [(1, none), (2, none), (3, none), (4, none), (25, none), (26, none), (27, none)] 6 ((fun x => s81aa ra rb rc ps t3 t4 t25 t26 x.t27 x.m5) x) = toR (fun x => s81aa ra rb rc ps t3 t4 t25 t26 x.t27 x.m5) (ou81aa ra rb rc ps t3 t4 t25 t26) (stp81aa ra rb rc ps t3 t4 t25 t26 x.t27 x.m5) := by
  refine (round81aa _ _ _ _ _ _ _ _ _ _ ).trans ?_
  unfold stp81aa
  simp only [toR_cond]
  rfl
theorem lok81aa {st : St} {outs : List (Bool × Ex × St)} {e : Ex} {s : St} (hl : l81aa st = some outs) (hch : Chosen outs e s) :
    ∃ keep nb, 0 ≤ nb ∧ LB Try.prog SS6 (ro 81) L81 lp81aa [false, true, false, false, true, false, false, true, false, true, true, true] keep nb st e s := by
  unfold l81aa at hl
  split at hl
  · rename_i ra rb rc ps t3 t4 t25 t26 t27 m5 hno
    cases hl
    have hno := normW_norm hno
    refine ⟨_, _, ?_, .enter hno ?_⟩
    · decide
    have main := fun y h => LB_run (x := (⟨t27, m5⟩ : S81aa)) (y := y) (nb := 6) (fun y => by cases y <;> simp [ou81aa]) (rnd81aa ra rb rc ps t3 t4 t25 t26) h
    obtain ⟨x, hx, hg, rfl, rfl⟩ := chosen_any hch
    simp only [List.mem_cons, List.not_mem_nil, or_false] at hx
    subst hx
    exact main _ (is81aa_0 ra rb rc ps t3 t4 t25 t26 t27 m5 hg)
  · cases hl
theorem is81a_0 (ra : Int) (rb : Int) (rc : Int) (ps : List (List AV)) (t3 : Nat) (t4 : Int) (m5 : List (List AV)) (h : i81a_0 ra rb rc ps t3 t4 m5 = true) : r81a ra rb rc ps t3 t4 m5 = some (.x0 (v81a_0_t4 ra rb rc ps t3 t4 m5) (v81a_0_m5 ra rb rc ps t3 t4 m5)) := by
  unfold i81a_0 at h
  unfold v81a_0_t4 v81a_0_m5
  generalize r81a ra rb rc ps t3 t4 m5 = r at h ⊢
  rcases r with _ | y
  · cases h
  · cases y <;> first | rfl | cases h
theorem round81a (ra : Int) (rb : Int) (rc : Int) (ps : List (List AV)) (t3 : Nat) (t4 : Int) (m5 : List (List AV)) : round Try.prog SS6 (ro 81) L81 lp81a [false, true, false, true, true, true] [(1, none), (2, none), (3, none), (4, none)] 6 (s81a ra rb rc ps t3 t4 m5) =
    cond (decide (t4 ≤ ra)) (cond (i81aa_0 ra rb rc ps t3 t4 ps (↑ps.length : Int) 0 m5) (some (.nrm, s81a ra rb rc ps t3 (IntKind.i64.wrap (t4 + 1)) (v81aa_0_m5 ra rb rc ps t3 t4 ps (↑ps.length : Int) 0 m5))) (none)) (some (.ext 0, o81a_0 ra rb rc ps t3 t4 m5)) := by kernel_rfl
theorem rnd81a (ra : Int) (rb : Int) (rc : Int) (ps : List (List AV)) (t3 : Nat) (x : S81a) : round Try.prog SS6 (ro 81) L81 lp81a [false, true, false, true, true, true] [(1, none), (2, none), (3, none), (4, none)] 6 ((fun x => s81a ra rb rc ps t3 x.t4 x.m5) x) = toR (fun x => s81a ra rb rc ps t3 x.t4 x.m5) (ou81a ra rb rc ps t3) (stp81a ra rb rc ps t3 x.t4 x.m5) := by
  refine (round81a _ _ _ _ _ _ _ ).trans ?_
  unfold stp81a
  simp only [toR_cond]
  rfl
theorem lok81a {st : St} {outs : List (Bool × Ex × St)} {e : Ex} {s : St} (hl : l81a st = some outs) (hch : Chosen outs e s) :
    ∃ keep nb, 0 ≤ nb ∧ LB Try.prog SS6 (ro 81) L81 lp81a [false, true, false, true, true, true] keep nb st e s := by
  unfold l81a at hl
  split at hl
  · rename_i ra rb rc ps t3 t4 m5 hno
    cases hl
    have hno := normW_norm hno
    refine ⟨_, _, ?_, .enter hno ?_⟩
    · decide
    have main := fun y h => LB_run (x := (⟨t4, m5⟩ : S81a)) (y := y) (nb := 6) (fun y => by cases y <;> simp [ou81a]) (rnd81a ra rb rc ps t3) h
    obtain ⟨x, hx, hg, rfl, rfl⟩ := chosen_any hch
    simp only [List.mem_cons, List.not_mem_nil, or_false] at hx
    subst hx
    exact main _ (is81a_0 ra rb rc ps t3 t4 m5 hg)
  · cases hl
theorem L81_ok (q : Pl) (c : Code) (hq : locate c81 q.reverse = some (.loop c)) (st : St) (outs : List (Bool × Ex × St)) (e : Ex) (s : St) (hl : L81 q st = some outs) (hch : Chosen outs e s) :
    ∃ keep nb, 0 ≤ nb ∧ LB Try.prog SS6 (ro 81) L81 c q keep nb st e s := by
  unfold L81 at hl
  split at hl
  · have : locate c81 ([false, true, false, false, true, false, false, true, false, true, true, true] : Pl).reverse = some (.loop lp81aa) := by kernel_rfl
    rw [this] at hq
    cases hq
    exact lok81aa hl hch
  · have : locate c81 ([false, true, false, true, true, true] : Pl).reverse = some (.loop lp81a) := by kernel_rfl
    rw [this] at hq
    cases hq
    exact lok81a hl hch
  · cases hl
theorem lok81 : LOK Try.prog SS6 (ro 81) L81 0 false c81 [] :=
  lok_lo L81_ok c81 [] false (locate_nil _) (by kernel_rfl)
noncomputable def t81 (ra rb rc : Int) (ps : List (List AV)) : Tr ((List (List AV))) :=
  .cn (decide (IntKind.i64.wrap (ra + 1) = IntKind.i64.wrap (ra + 1)) && (decide (0 ≤ IntKind.i64.wrap (ra + 1)) && decide (IntKind.i64.wrap (ra + 1) * (↑80 : Int) ≤ 140737488355328) && decide (IntKind.i64.wrap (ra + 1) ≤ 9223372036854775807))) (.cn (inb 0 (IntKind.i64.wrap (ra + 1)).toNat && Nat.blt 0 (List.replicate (IntKind.i64.wrap (ra + 1)).toNat [AV.i IntKind.i64 0, AV.i IntKind.i64 0, AV.i IntKind.i64 0, AV.i IntKind.i64 0, AV.i IntKind.i64 0, AV.i IntKind.i64 0, AV.i IntKind.i64 0, AV.i IntKind.i64 0, AV.i IntKind.i64 0, AV.i IntKind.i64 0]).length) (.cn (inb rc 10) (.cn (ctsAt (cts Try.prog 91) (0 + rc.toNat * 1) (cts Try.prog 3) && Nat.blt 0 (List.replicate (IntKind.i64.wrap (ra + 1)).toNat [AV.i IntKind.i64 0, AV.i IntKind.i64 0, AV.i IntKind.i64 0, AV.i IntKind.i64 0, AV.i IntKind.i64 0, AV.i IntKind.i64 0, AV.i IntKind.i64 0, AV.i IntKind.i64 0, AV.i IntKind.i64 0, AV.i IntKind.i64 0]).length) (.cn (i81a_0 ra rb rc ps (IntKind.i64.wrap (ra + 1)).toNat 1 ((List.replicate (IntKind.i64.wrap (ra + 1)).toNat [AV.i IntKind.i64 0, AV.i IntKind.i64 0, AV.i IntKind.i64 0, AV.i IntKind.i64 0, AV.i IntKind.i64 0, AV.i IntKind.i64 0, AV.i IntKind.i64 0, AV.i IntKind.i64 0, AV.i IntKind.i64 0, AV.i IntKind.i64 0]).set 0 (setCs ((List.replicate (IntKind.i64.wrap (ra + 1)).toNat [AV.i IntKind.i64 0, AV.i IntKind.i64 0, AV.i IntKind.i64 0, AV.i IntKind.i64 0, AV.i IntKind.i64 0, AV.i IntKind.i64 0, AV.i IntKind.i64 0, AV.i IntKind.i64 0, AV.i IntKind.i64 0, AV.i IntKind.i64 0]).getD 0 []) (0 + rc.toNat * 1) [AV.i IntKind.i64 1]))) (.cn ((0 + (IntKind.i64.wrap (ra + 1)).toNat).ble (v81a_0_m5 ra rb rc ps (IntKind.i64.wrap (ra + 1)).toNat 1 ((List.replicate (IntKind.i64.wrap (ra + 1)).toNat [AV.i IntKind.i64 0, AV.i IntKind.i64 0, AV.i IntKind.i64 0, AV.i IntKind.i64 0, AV.i IntKind.i64 0, AV.i IntKind.i64 0, AV.i IntKind.i64 0, AV.i IntKind.i64 0, AV.i IntKind.i64 0, AV.i IntKind.i64 0]).set 0 (setCs ((List.replicate (IntKind.i64.wrap (ra + 1)).toNat [AV.i IntKind.i64 0, AV.i IntKind.i64 0, AV.i IntKind.i64 0, AV.i IntKind.i64 0, AV.i IntKind.i64 0, AV.i IntKind.i64 0, AV.i IntKind.i64 0, AV.i IntKind.i64 0, AV.i IntKind.i64 0, AV.i IntKind.i64 0]).getD 0 []) (0 + rc.toNat * 1) [AV.i IntKind.i64 1]))).length) (.lf (bif (IntKind.i64.wrap (ra + 1)).toNat.beq (v81a_0_m5 ra rb rc ps (IntKind.i64.wrap (ra + 1)).toNat 1 ((List.replicate (IntKind.i64.wrap (ra + 1)).toNat [AV.i IntKind.i64 0, AV.i IntKind.i64 0, AV.i IntKind.i64 0, AV.i IntKind.i64 0, AV.i IntKind.i64 0, AV.i IntKind.i64 0, AV.i IntKind.i64 0, AV.i IntKind.i64 0, AV.i IntKind.i64 0, AV.i IntKind.i64 0]).set 0 (setCs ((List.replicate (IntKind.i64.wrap (ra + 1)).toNat [AV.i IntKind.i64 0, AV.i IntKind.i64 0, AV.i IntKind.i64 0, AV.i IntKind.i64 0, AV.i IntKind.i64 0, AV.i IntKind.i64 0, AV.i IntKind.i64 0, AV.i IntKind.i64 0, AV.i IntKind.i64 0, AV.i IntKind.i64 0]).getD 0 []) (0 + rc.toNat * 1) [AV.i IntKind.i64 1]))).length then v81a_0_m5 ra rb rc ps (IntKind.i64.wrap (ra + 1)).toNat 1 ((List.replicate (IntKind.i64.wrap (ra + 1)).toNat [AV.i IntKind.i64 0, AV.i IntKind.i64 0, AV.i IntKind.i64 0, AV.i IntKind.i64 0, AV.i IntKind.i64 0, AV.i IntKind.i64 0, AV.i IntKind.i64 0, AV.i IntKind.i64 0, AV.i IntKind.i64 0, AV.i IntKind.i64 0]).set 0 (setCs ((List.replicate (IntKind.i64.wrap (ra + 1)).toNat [AV.i IntKind.i64 0, AV.i IntKind.i64 0, AV.i IntKind.i64 0, AV.i IntKind.i64 0, AV.i IntKind.i64 0, AV.i IntKind.i64 0, AV.i IntKind.i64 0, AV.i IntKind.i64 0, AV.i IntKind.i64 0, AV.i IntKind.i64 0]).getD 0 []) (0 + rc.toNat * 1) [AV.i IntKind.i64 1])) else List.take (IntKind.i64.wrap (ra + 1)).toNat (List.drop 0 (v81a_0_m5 ra rb rc ps (IntKind.i64.wrap (ra + 1)).toNat 1 ((List.replicate (IntKind.i64.wrap (ra + 1)).toNat [AV.i IntKind.i64 0, AV.i IntKind.i64 0, AV.i IntKind.i64 0, AV.i IntKind.i64 0, AV.i IntKind.i64 0, AV.i IntKind.i64 0, AV.i IntKind.i64 0, AV.i IntKind.i64 0, AV.i IntKind.i64 0, AV.i IntKind.i64 0]).set 0 (setCs ((List.replicate (IntKind.i64.wrap (ra + 1)).toNat [AV.i IntKind.i64 0, AV.i IntKind.i64 0, AV.i IntKind.i64 0, AV.i IntKind.i64 0, AV.i IntKind.i64 0, AV.i IntKind.i64 0, AV.i IntKind.i64 0, AV.i IntKind.i64 0, AV.i IntKind.i64 0, AV.i IntKind.i64 0]).getD 0 []) (0 + rc.toNat * 1) [AV.i IntKind.i64 1])))))) (.nn)) (.nn)) (.nn)) (.nn)) (.nn)) (.nn)
noncomputable def g81 (ra rb rc : Int) (ps : List (List AV)) : Bool := (t81 ra rb rc ps).g
noncomputable def w81_0 (ra rb rc : Int) (ps : List (List AV)) : List (List AV) := (t81 ra rb rc ps).val
theorem eq81 (ra rb rc : Int) (ps : List (List AV)) : evF Try.prog SS6 (ro 81) L81 Try.f81 [.agg [.i .i64 ra, .i .i64 rb, .i .i64 rc, .rs 31 ps]] = (t81 ra rb rc ps).opt (fun (x : (List (List AV))) => (.rs 91 x : AV)) := by kernel_rfl
theorem con81 (ra rb rc : Int) (ps : List (List AV)) (h : g81 ra rb rc ps = true) : Con Try.prog 81 [.agg [.i .i64 ra, .i .i64 rb, .i .i64 rc, .rs 31 ps]] [] (.rs 91 (w81_0 ra rb rc ps)) [] :=
  con_of SS6_ok mixed Try.func81 (c := c81) rfl (names 81 _ Try.func81) lok81 ((eq81 ra rb rc ps).trans (Tr.sound _ _ h))
noncomputable def e81 (args : List AV) (rows : List Blk) : Option (Bool × AV × List Blk) := match args, rows with
  | [.agg [.i .i64 ra, .i .i64 rb, .i .i64 rc, .rs 31 ps]], [] => some (g81 ra rb rc ps, .rs 91 (w81_0 ra rb rc ps), [])
  | _, _ => none
theorem e81_ok (args : List AV) (rows : List Blk) (pre : Bool) (v : AV) (rows' : List Blk) (h : e81 args rows = some (pre, v, rows')) (hp : pre = true) : Con Try.prog 81 args rows v rows' := by
  unfold e81 at h
  split at h
  · cases h; exact con81 _ _ _ _ hp
  · cases h
-- SPEC 81
end Go.Proofs.Ytgifjphinkbcaaa

set_option maxRecDepth 100000
set_option linter.unusedVariables false
namespace Go.Proofs.Ytgifjphinkbcaaa
open Go Go.Ev
noncomputable def SS7 : Ev.Spec := insS 81 e81 (insS 52 e52 (insS 51 e51 (insS 29 e29 (S0))))
theorem SS7_ok : SpecOK Try.prog SS7 := insS_ok e81_ok (insS_ok e52_ok (insS_ok e51_ok (insS_ok e29_ok (S0_ok))))
end Go.Proofs.Ytgifjphinkbcaaa

set_option maxRecDepth 100000
set_option maxHeartbeats 0
set_option linter.unusedVariables false
namespace Go.Proofs.Ytgifjphinkbcaaa
open Go Go.Ev

/-! ### counted -/
noncomputable def c50 : Code := match Try.f50.body with | some c => c | _ => .skip
theorem lok50 : LOK Try.prog SS7 (ro 50) (fun _ _ => none) 0 false c50 [] :=
  lok_lo (fun _ _ _ _ _ _ _ h _ => by cases h) c50 [] false (locate_nil _) (by kernel_rfl)
noncomputable def t50 (ra rb rc : Int) (ps : List (List AV)) : Tr ((List (List AV)) × (Int)) :=
  .cn (g29 ra rb rc ps) (.cn (w29_0 ra rb rc ps != 0) (.lf ([], w29_0 ra rb rc ps)) (.cn (g81 ra rb rc ps) (.cn (g51 (w81_0 ra rb rc ps) (w52_0 ra rb rc ps) (w52_1 ra rb rc ps)) (.cn (decide (w51_0 (w81_0 ra rb rc ps) (w52_0 ra rb rc ps) (w52_1 ra rb rc ps) > 1000000000000000)) (.lf ([], 3)) (.lf (w81_0 ra rb rc ps, 0))) (.nn)) (.nn))) (.nn)
noncomputable def g50 (ra rb rc : Int) (ps : List (List AV)) : Bool := (t50 ra rb rc ps).g
noncomputable def w50_0 (ra rb rc : Int) (ps : List (List AV)) : List (List AV) := (t50 ra rb rc ps).val.1
noncomputable def w50_1 (ra rb rc : Int) (ps : List (List AV)) : Int := (t50 ra rb rc ps).val.2
noncomputable def a50 (ra rb rc : Int) (ps : List (List AV)) : Tr AV :=
  .cn (g29 ra rb rc ps) (.cn (w29_0 ra rb rc ps != 0) (.lf (.tup [.nl, .i .i64 (w29_0 ra rb rc ps)])) (.cn (g81 ra rb rc ps) (.cn (g51 (w81_0 ra rb rc ps) (w52_0 ra rb rc ps) (w52_1 ra rb rc ps)) (.cn (decide (w51_0 (w81_0 ra rb rc ps) (w52_0 ra rb rc ps) (w52_1 ra rb rc ps) > 1000000000000000)) (.lf (.tup [.nl, .i .i64 3])) (.lf (.tup [.rs 91 (w81_0 ra rb rc ps), .i .i64 0]))) (.nn)) (.nn))) (.nn)
theorem eq50 (ra rb rc : Int) (ps : List (List AV)) : evF Try.prog SS7 (ro 50) (fun _ _ => none) Try.f50 [.agg [.i .i64 ra, .i .i64 rb, .i .i64 rc, .rs 31 ps]] = (a50 ra rb rc ps).opt id := by kernel_rfl
theorem wk50 (ra rb rc : Int) (ps : List (List AV)) : (a50 ra rb rc ps).map (wkV [some 91, none]) = (t50 ra rb rc ps).map (fun (x : (List (List AV)) × (Int)) => (.tup [.rs 91 x.1, .i .i64 x.2] : AV)) := by kernel_rfl
theorem con50 (ra rb rc : Int) (ps : List (List AV)) (h : g50 ra rb rc ps = true) : Con Try.prog 50 [.agg [.i .i64 ra, .i .i64 rb, .i .i64 rc, .rs 31 ps]] [] (.tup [.rs 91 (w50_0 ra rb rc ps), .i .i64 (w50_1 ra rb rc ps)]) [] := by
  obtain ⟨v, h1, h2⟩ := Tr.soundW (eq50 ra rb rc ps) (wk50 ra rb rc ps) h
  have := (con_of SS7_ok mixed Try.func50 (c := c50) rfl (names 50 _ Try.func50) lok50 h1).wk [some 91, none]
  rw [h2] at this
  exact this
noncomputable def e50 (args : List AV) (rows : List Blk) : Option (Bool × AV × List Blk) := match args, rows with
  | [.agg [.i .i64 ra, .i .i64 rb, .i .i64 rc, .rs 31 ps]], [] => some (g50 ra rb rc ps, .tup [.rs 91 (w50_0 ra rb rc ps), .i .i64 (w50_1 ra rb rc ps)], [])
  | _, _ => none
theorem e50_ok (args : List AV) (rows : List Blk) (pre : Bool) (v : AV) (rows' : List Blk) (h : e50 args rows = some (pre, v, rows')) (hp : pre = true) : Con Try.prog 50 args rows v rows' := by
  unfold e50 at h
  split at h
  · cases h; exact con50 _ _ _ _ hp
  · cases h
-- SPEC 50
end Go.Proofs.Ytgifjphinkbcaaa

set_option maxRecDepth 100000
set_option linter.unusedVariables false
namespace Go.Proofs.Ytgifjphinkbcaaa
open Go Go.Ev
noncomputable def SS8 : Ev.Spec := insS 52 e52 (insS 51 e51 (insS 50 e50 (S0)))
theorem SS8_ok : SpecOK Try.prog SS8 := insS_ok e52_ok (insS_ok e51_ok (insS_ok e50_ok (S0_ok)))
end Go.Proofs.Ytgifjphinkbcaaa

set_option maxRecDepth 100000
set_option maxHeartbeats 0
set_option linter.unusedVariables false
namespace Go.Proofs.Ytgifjphinkbcaaa
open Go Go.Ev

/-! ### Ways -/
noncomputable def c20 : Code := match Try.f20.body with | some c => c | _ => .skip
theorem lok20 : LOK Try.prog SS8 (ro 20) (fun _ _ => none) 0 false c20 [] :=
  lok_lo (fun _ _ _ _ _ _ _ h _ => by cases h) c20 [] false (locate_nil _) (by kernel_rfl)
noncomputable def t20 (ra rb rc : Int) (ps : List (List AV)) : Tr ((Int) × (Int)) :=
  .cn (g50 ra rb rc ps) (.cn (w50_1 ra rb rc ps != 0) (.lf (0, w50_1 ra rb rc ps)) (.cn (g51 (w50_0 ra rb rc ps) (w52_0 ra rb rc ps) (w52_1 ra rb rc ps)) (.lf (w51_0 (w50_0 ra rb rc ps) (w52_0 ra rb rc ps) (w52_1 ra rb rc ps), 0)) (.nn))) (.nn)
noncomputable def g20 (ra rb rc : Int) (ps : List (List AV)) : Bool := (t20 ra rb rc ps).g
noncomputable def w20_0 (ra rb rc : Int) (ps : List (List AV)) : Int := (t20 ra rb rc ps).val.1
noncomputable def w20_1 (ra rb rc : Int) (ps : List (List AV)) : Int := (t20 ra rb rc ps).val.2
theorem eq20 (ra rb rc : Int) (ps : List (List AV)) : evF Try.prog SS8 (ro 20) (fun _ _ => none) Try.f20 [.agg [.i .i64 ra, .i .i64 rb, .i .i64 rc, .rs 31 ps]] = (t20 ra rb rc ps).opt (fun (x : (Int) × (Int)) => (.tup [.i .i64 x.1, .i .i64 x.2] : AV)) := by kernel_rfl
theorem con20 (ra rb rc : Int) (ps : List (List AV)) (h : g20 ra rb rc ps = true) : Con Try.prog 20 [.agg [.i .i64 ra, .i .i64 rb, .i .i64 rc, .rs 31 ps]] [] (.tup [.i .i64 (w20_0 ra rb rc ps), .i .i64 (w20_1 ra rb rc ps)]) [] :=
  con_of SS8_ok mixed Try.func20 (c := c20) rfl (names 20 _ Try.func20) lok20 ((eq20 ra rb rc ps).trans (Tr.sound _ _ h))
noncomputable def e20 (args : List AV) (rows : List Blk) : Option (Bool × AV × List Blk) := match args, rows with
  | [.agg [.i .i64 ra, .i .i64 rb, .i .i64 rc, .rs 31 ps]], [] => some (g20 ra rb rc ps, .tup [.i .i64 (w20_0 ra rb rc ps), .i .i64 (w20_1 ra rb rc ps)], [])
  | _, _ => none
theorem e20_ok (args : List AV) (rows : List Blk) (pre : Bool) (v : AV) (rows' : List Blk) (h : e20 args rows = some (pre, v, rows')) (hp : pre = true) : Con Try.prog 20 args rows v rows' := by
  unfold e20 at h
  split at h
  · cases h; exact con20 _ _ _ _ hp
  · cases h
-- SPEC 20
end Go.Proofs.Ytgifjphinkbcaaa

set_option maxRecDepth 100000
set_option linter.unusedVariables false
namespace Go.Proofs.Ytgifjphinkbcaaa
open Go Go.Ev
noncomputable def SS11 : Ev.Spec := insS 71 e71 (insS 55 e55 (insS 52 e52 (S0)))
theorem SS11_ok : SpecOK Try.prog SS11 := insS_ok e71_ok (insS_ok e55_ok (insS_ok e52_ok (S0_ok)))
end Go.Proofs.Ytgifjphinkbcaaa

set_option maxRecDepth 100000
set_option maxHeartbeats 0
set_option linter.unusedVariables false
namespace Go.Proofs.Ytgifjphinkbcaaa
open Go Go.Ev

/-! ### fits -/
noncomputable def c64 : Code := match Try.f64.body with | some c => c | _ => .skip
noncomputable def lp64a : Code := loopAt c64 [true, true, false, true, false]
noncomputable def s64a (ra : Int) (rb : Int) (rc : Int) (ps : List (List AV)) (t4 : Bool) (t6 : Bool) (ws : List (List AV)) (t12 : Int) (t13 : Int) (m4_0 : Int) (m4_1 : Int) : St :=
  { t := [(2, .rp [.int .i64, .int .i64, .int .i64, .sl 31] [.i .i64 ra, .i .i64 rb, .i .i64 rc, .rs 31 ps] 0), (4, .b t4), (5, .p 4 0 0), (6, .b t6), (11, .rs 3 ws), (12, .i .i64 t12), (13, .i .i64 t13)], m := [(0, .dead), (1, .dead), (2, .dead), (3, .dead), (4, .row 78 [[.i .i64 m4_0, .i .i64 m4_1]])], nx := 5, nt := 42 }
structure S64a where
  t6 : Bool
  t13 : Int
  m4_0 : Int
  m4_1 : Int
inductive T64a where
  | x0 (t4' : Bool) (t6 : Bool) (t13 : Int) (m4_0 : Int) (m4_1 : Int)
  | x1 (t6 : Bool) (t13 : Int) (m4_0 : Int) (m4_1 : Int)
noncomputable def stp64a (ra : Int) (rb : Int) (rc : Int) (ps : List (List AV)) (t4 : Bool) (ws : List (List AV)) (t12 : Int) (t6 : Bool) (t13 : Int) (m4_0 : Int) (m4_1 : Int) : Lp S64a T64a :=
  cond (decide (t13 < t12)) (cond (inb t13 ws.length) (cond (g55 (fI (ws.getD t13.toNat []) 0) 0 (IntKind.i64.wrap ((↑ps.length : Int) - 1))) (cond (!w55_0 (fI (ws.getD t13.toNat []) 0) 0 (IntKind.i64.wrap ((↑ps.length : Int) - 1))) (.out (.x0 false t6 t13 m4_0 m4_1)) (cond (inb (fI (ws.getD t13.toNat []) 0) ps.length) (cond (g71 m4_0 m4_1 (fS (ps.getD (fI (ws.getD t13.toNat []) 0).toNat []) 0) (fI (ps.getD (fI (ws.getD t13.toNat []) 0).toNat []) 1) (fI (ps.getD (fI (ws.getD t13.toNat []) 0).toNat []) 2) (fI (ps.getD (fI (ws.getD t13.toNat []) 0).toNat []) 3) (fI (ps.getD (fI (ws.getD t13.toNat []) 0).toNat []) 4)) (cond (!w71_2 m4_0 m4_1 (fS (ps.getD (fI (ws.getD t13.toNat []) 0).toNat []) 0) (fI (ps.getD (fI (ws.getD t13.toNat []) 0).toNat []) 1) (fI (ps.getD (fI (ws.getD t13.toNat []) 0).toNat []) 2) (fI (ps.getD (fI (ws.getD t13.toNat []) 0).toNat []) 3) (fI (ps.getD (fI (ws.getD t13.toNat []) 0).toNat []) 4)) (.out (.x0 false (w71_2 m4_0 m4_1 (fS (ps.getD (fI (ws.getD t13.toNat []) 0).toNat []) 0) (fI (ps.getD (fI (ws.getD t13.toNat []) 0).toNat []) 1) (fI (ps.getD (fI (ws.getD t13.toNat []) 0).toNat []) 2) (fI (ps.getD (fI (ws.getD t13.toNat []) 0).toNat []) 3) (fI (ps.getD (fI (ws.getD t13.toNat []) 0).toNat []) 4)) t13 (w71_0 m4_0 m4_1 (fS (ps.getD (fI (ws.getD t13.toNat []) 0).toNat []) 0) (fI (ps.getD (fI (ws.getD t13.toNat []) 0).toNat []) 1) (fI (ps.getD (fI (ws.getD t13.toNat []) 0).toNat []) 2) (fI (ps.getD (fI (ws.getD t13.toNat []) 0).toNat []) 3) (fI (ps.getD (fI (ws.getD t13.toNat []) 0).toNat []) 4)) (w71_1 m4_0 m4_1 (fS (ps.getD (fI (ws.getD t13.toNat []) 0).toNat []) 0) (fI (ps.getD (fI (ws.getD t13.toNat []) 0).toNat []) 1) (fI (ps.getD (fI (ws.getD t13.toNat []) 0).toNat []) 2) (fI (ps.getD (fI (ws.getD t13.toNat []) 0).toNat []) 3) (fI (ps.getD (fI (ws.getD t13.toNat []) 0).toNat []) 4)))) (.go ⟨w71_2 m4_0 m4_1 (fS (ps.getD (fI (ws.getD t13.toNat []) 0).toNat []) 0) (fI (ps.getD (fI (ws.getD t13.toNat []) 0).toNat []) 1) (fI (ps.getD (fI (ws.getD t13.toNat []) 0).toNat []) 2) (fI (ps.getD (fI (ws.getD t13.toNat []) 0).toNat []) 3) (fI (ps.getD (fI (ws.getD t13.toNat []) 0).toNat []) 4), IntKind.i64.wrap (t13 + 1), w71_0 m4_0 m4_1 (fS (ps.getD (fI (ws.getD t13.toNat []) 0).toNat []) 0) (fI (ps.getD (fI (ws.getD t13.toNat []) 0).toNat []) 1) (fI (ps.getD (fI (ws.getD t13.toNat []) 0).toNat []) 2) (fI (ps.getD (fI (ws.getD t13.toNat []) 0).toNat []) 3) (fI (ps.getD (fI (ws.getD t13.toNat []) 0).toNat []) 4), w71_1 m4_0 m4_1 (fS (ps.getD (fI (ws.getD t13.toNat []) 0).toNat []) 0) (fI (ps.getD (fI (ws.getD t13.toNat []) 0).toNat []) 1) (fI (ps.getD (fI (ws.getD t13.toNat []) 0).toNat []) 2) (fI (ps.getD (fI (ws.getD t13.toNat []) 0).toNat []) 3) (fI (ps.getD (fI (ws.getD t13.toNat []) 0).toNat []) 4)⟩)) (.bad)) (.bad))) (.bad)) (.bad)) (.out (.x1 t6 t13 m4_0 m4_1))
noncomputable def o64a_0 (ra : Int) (rb : Int) (rc : Int) (ps : List (List AV)) (t4 : Bool) (ws : List (List AV)) (t12 : Int) (t4' : Bool) (t6 : Bool) (t13 : Int) (m4_0 : Int) (m4_1 : Int) : St :=
  { t := [(2, .rp [.int .i64, .int .i64, .int .i64, .sl 31] [.i .i64 ra, .i .i64 rb, .i .i64 rc, .rs 31 ps] 0), (4, .b t4'), (5, .p 4 0 0), (6, .b t6), (11, .rs 3 ws), (12, .i .i64 t12), (13, .i .i64 t13)], m := [(0, .dead), (1, .dead), (2, .dead), (3, .dead), (4, .row 78 [[.i .i64 m4_0, .i .i64 m4_1]])], nx := 5, nt := 42 }
noncomputable def o64a_1 (ra : Int) (rb : Int) (rc : Int) (ps : List (List AV)) (t4 : Bool) (ws : List (List AV)) (t12 : Int) (t6 : Bool) (t13 : Int) (m4_0 : Int) (m4_1 : Int) : St :=
  { t := [(2, .rp [.int .i64, .int .i64, .int .i64, .sl 31] [.i .i64 ra, .i .i64 rb, .i .i64 rc, .rs 31 ps] 0), (4, .b t4), (5, .p 4 0 0), (6, .b t6), (11, .rs 3 ws), (12, .i .i64 t12), (13, .i .i64 t13)], m := [(0, .dead), (1, .dead), (2, .dead), (3, .dead), (4, .row 78 [[.i .i64 m4_0, .i .i64 m4_1]])], nx := 5, nt := 42 }
noncomputable def ou64a (ra : Int) (rb : Int) (rc : Int) (ps : List (List AV)) (t4 : Bool) (ws : List (List AV)) (t12 : Int) : T64a → Ex × St
  | .x0 t4' t6 t13 m4_0 m4_1 => (.ret, o64a_0 ra rb rc ps t4 ws t12 t4' t6 t13 m4_0 m4_1)
  | .x1 t6 t13 m4_0 m4_1 => (.ext 0, o64a_1 ra rb rc ps t4 ws t12 t6 t13 m4_0 m4_1)
noncomputable def r64a (ra : Int) (rb : Int) (rc : Int) (ps : List (List AV)) (t4 : Bool) (ws : List (List AV)) (t12 : Int) (t6 : Bool) (t13 : Int) (m4_0 : Int) (m4_1 : Int) : Option T64a := run (fun x => stp64a ra rb rc ps t4 ws t12 x.t6 x.t13 x.m4_0 x.m4_1) (⟨t6, t13, m4_0, m4_1⟩ : S64a)
noncomputable def i64a_0 (ra : Int) (rb : Int) (rc : Int) (ps : List (List AV)) (t4 : Bool) (ws : List (List AV)) (t12 : Int) (t6 : Bool) (t13 : Int) (m4_0 : Int) (m4_1 : Int) : Bool := match r64a ra rb rc ps t4 ws t12 t6 t13 m4_0 m4_1 with
  | some (.x0 _ _ _ _ _) => true
  | _ => false
noncomputable def v64a_0_t4' (ra : Int) (rb : Int) (rc : Int) (ps : List (List AV)) (t4 : Bool) (ws : List (List AV)) (t12 : Int) (t6 : Bool) (t13 : Int) (m4_0 : Int) (m4_1 : Int) : Bool := match r64a ra rb rc ps t4 ws t12 t6 t13 m4_0 m4_1 with
  | some (.x0 t4' _ _ _ _) => t4'
  | _ => default
noncomputable def v64a_0_t6 (ra : Int) (rb : Int) (rc : Int) (ps : List (List AV)) (t4 : Bool) (ws : List (List AV)) (t12 : Int) (t6 : Bool) (t13 : Int) (m4_0 : Int) (m4_1 : Int) : Bool := match r64a ra rb rc ps t4 ws t12 t6 t13 m4_0 m4_1 with
  | some (.x0 _ t6 _ _ _) => t6
  | _ => default
noncomputable def v64a_0_t13 (ra : Int) (rb : Int) (rc : Int) (ps : List (List AV)) (t4 : Bool) (ws : List (List AV)) (t12 : Int) (t6 : Bool) (t13 : Int) (m4_0 : Int) (m4_1 : Int) : Int := match r64a ra rb rc ps t4 ws t12 t6 t13 m4_0 m4_1 with
  | some (.x0 _ _ t13 _ _) => t13
  | _ => default
noncomputable def v64a_0_m4_0 (ra : Int) (rb : Int) (rc : Int) (ps : List (List AV)) (t4 : Bool) (ws : List (List AV)) (t12 : Int) (t6 : Bool) (t13 : Int) (m4_0 : Int) (m4_1 : Int) : Int := match r64a ra rb rc ps t4 ws t12 t6 t13 m4_0 m4_1 with
  | some (.x0 _ _ _ m4_0 _) => m4_0
  | _ => default
noncomputable def v64a_0_m4_1 (ra : Int) (rb : Int) (rc : Int) (ps : List (List AV)) (t4 : Bool) (ws : List (List AV)) (t12 : Int) (t6 : Bool) (t13 : Int) (m4_0 : Int) (m4_1 : Int) : Int := match r64a ra rb rc ps t4 ws t12 t6 t13 m4_0 m4_1 with
  | some (.x0 _ _ _ _ m4_1) => m4_1
  | _ => default
noncomputable def i64a_1 (ra : Int) (rb : Int) (rc : Int) (ps : List (List AV)) (t4 : Bool) (ws : List (List AV)) (t12 : Int) (t6 : Bool) (t13 : Int) (m4_0 : Int) (m4_1 : Int) : Bool := match r64a ra rb rc ps t4 ws t12 t6 t13 m4_0 m4_1 with
  | some (.x1 _ _ _ _) => true
  | _ => false
noncomputable def v64a_1_t6 (ra : Int) (rb : Int) (rc : Int) (ps : List (List AV)) (t4 : Bool) (ws : List (List AV)) (t12 : Int) (t6 : Bool) (t13 : Int) (m4_0 : Int) (m4_1 : Int) : Bool := match r64a ra rb rc ps t4 ws t12 t6 t13 m4_0 m4_1 with
  | some (.x1 t6 _ _ _) => t6
  | _ => default
noncomputable def v64a_1_t13 (ra : Int) (rb : Int) (rc : Int) (ps : List (List AV)) (t4 : Bool) (ws : List (List AV)) (t12 : Int) (t6 : Bool) (t13 : Int) (m4_0 : Int) (m4_1 : Int) : Int := match r64a ra rb rc ps t4 ws t12 t6 t13 m4_0 m4_1 with
  | some (.x1 _ t13 _ _) => t13
  | _ => default
noncomputable def v64a_1_m4_0 (ra : Int) (rb : Int) (rc : Int) (ps : List (List AV)) (t4 : Bool) (ws : List (List AV)) (t12 : Int) (t6 : Bool) (t13 : Int) (m4_0 : Int) (m4_1 : Int) : Int := match r64a ra rb rc ps t4 ws t12 t6 t13 m4_0 m4_1 with
  | some (.x1 _ _ m4_0 _) => m4_0
  | _ => default
noncomputable def v64a_1_m4_1 (ra : Int) (rb : Int) (rc : Int) (ps : List (List AV)) (t4 : Bool) (ws : List (List AV)) (t12 : Int) (t6 : Bool) (t13 : Int) (m4_0 : Int) (m4_1 : Int) : Int := match r64a ra rb rc ps t4 ws t12 t6 t13 m4_0 m4_1 with
  | some (.x1 _ _ _ m4_1) => m4_1
  | _ => default
noncomputable def l64a (st : St) : Option (List (Bool × Ex × St)) := match normW Try.prog [(2, none), (4, none), (5, none), (6, none), (11, none), (12, none), (13, none)] 5 st with
  | some ([.rp [.int .i64, .int .i64, .int .i64, .sl 31] [.i .i64 ra, .i .i64 rb, .i .i64 rc, .rs 31 ps] 0, .b t4, .p 4 0 0, .b t6, .rs 3 ws, .i .i64 t12, .i .i64 t13], [(0, .dead), (1, .dead), (2, .dead), (3, .dead), (4, .row 78 [[.i .i64 m4_0, .i .i64 m4_1]])], 5, 42) => some [(i64a_0 ra rb rc ps t4 ws t12 t6 t13 m4_0 m4_1, .ret, o64a_0 ra rb rc ps t4 ws t12 (v64a_0_t4' ra rb rc ps t4 ws t12 t6 t13 m4_0 m4_1) (v64a_0_t6 ra rb rc ps t4 ws t12 t6 t13 m4_0 m4_1) (v64a_0_t13 ra rb rc ps t4 ws t12 t6 t13 m4_0 m4_1) (v64a_0_m4_0 ra rb rc ps t4 ws t12 t6 t13 m4_0 m4_1) (v64a_0_m4_1 ra rb rc ps t4 ws t12 t6 t13 m4_0 m4_1)), (i64a_1 ra rb rc ps t4 ws t12 t6 t13 m4_0 m4_1, .ext 0, o64a_1 ra rb rc ps t4 ws t12 (v64a_1_t6 ra rb rc ps t4 ws t12 t6 t13 m4_0 m4_1) (v64a_1_t13 ra rb rc ps t4 ws t12 t6 t13 m4_0 m4_1) (v64a_1_m4_0 ra rb rc ps t4 ws t12 t6 t13 m4_0 m4_1) (v64a_1_m4_1 ra rb rc ps t4 ws t12 t6 t13 m4_0 m4_1))]
  | _ => none
noncomputable def L64 : LSpec := fun p st => match p with
  | [false, true, false, true, true] => l64a st
  | _ => none
theorem is64a_0 (ra : Int) (rb : Int) (rc : Int) (ps : List (List AV)) (t4 : Bool) (ws : List (List AV)) (t12 : Int) (t6 : Bool) (t13 : Int) (m4_0 : Int) (m4_1 : Int) (h : i64a_0 ra rb rc ps t4 ws t12 t6 t13 m4_0 m4_1 = true) : r64a ra rb rc ps t4 ws t12 t6 t13 m4_0 m4_1 = some (.x0 (v64a_0_t4' ra rb rc ps t4 ws t12 t6 t13 m4_0 m4_1) (v64a_0_t6 ra rb rc ps t4 ws t12 t6 t13 m4_0 m4_1) (v64a_0_t13 ra rb rc ps t4 ws t12 t6 t13 m4_0 m4_1) (v64a_0_m4_0 ra rb rc ps t4 ws t12 t6 t13 m4_0 m4_1) (v64a_0_m4_1 ra rb rc ps t4 ws t12 t6 t13 m4_0 m4_1)) := by
  unfold i64a_0 at h
  unfold v64a_0_t4' v64a_0_t6 v64a_0_t13 v64a_0_m4_0 v64a_0_m4_1
  generalize r64a ra rb rc ps t4 ws t12 t6 t13 m4_0 m4_1 = r at h ⊢
  rcases r with _ | y
  · cases h
  · cases y <;> first | rfl | cases h
theorem is64a_1 (ra : Int) (rb : Int) (rc : Int) (ps : List (List AV)) (t4 : Bool) (ws : List (List AV)) (t12 : Int) (t6 : Bool) (t13 : Int) (m4_0 : Int) (m4_1 : Int) (h : i64a_1 ra rb rc ps t4 ws t12 t6 t13 m4_0 m4_1 = true) : r64a ra rb rc ps t4 ws t12 t6 t13 m4_0 m4_1 = some (.x1 (v64a_1_t6 ra rb rc ps t4 ws t12 t6 t13 m4_0 m4_1) (v64a_1_t13 ra rb rc ps t4 ws t12 t6 t13 m4_0 m4_1) (v64a_1_m4_0 ra rb rc ps t4 ws t12 t6 t13 m4_0 m4_1) (v64a_1_m4_1 ra rb rc ps t4 ws t12 t6 t13 m4_0 m4_1)) := by
  unfold i64a_1 at h
  unfold v64a_1_t6 v64a_1_t13 v64a_1_m4_0 v64a_1_m4_1
  generalize r64a ra rb rc ps t4 ws t12 t6 t13 m4_0 m4_1 = r at h ⊢
  rcases r with _ | y
  · cases h
  · cases y <;> first | rfl | cases h
theorem round64a (ra : Int) (rb : Int) (rc : Int) (ps : List (List AV)) (t4 : Bool) (t6 : Bool) (ws : List (List AV)) (t12 : Int) (t13 : Int) (m4_0 : Int) (m4_1 : Int) : round Try.prog SS11 (ro 64) L64 lp64a [false, true, false, true, true] [(2, none), (4, none), (5, none), (6, none), (11, none), (12, none), (13, none)] 5 (s64a ra rb rc ps t4 t6 ws t12 t13 m4_0 m4_1) =
    cond (decide (t13 < t12)) (cond (inb t13 ws.length) (cond (g55 (fI (ws.getD t13.toNat []) 0) 0 (IntKind.i64.wrap ((↑ps.length : Int) - 1))) (cond (!w55_0 (fI (ws.getD t13.toNat []) 0) 0 (IntKind.i64.wrap ((↑ps.length : Int) - 1))) (some (.ret, o64a_0 ra rb rc ps t4 ws t12 false t6 t13 m4_0 m4_1)) (cond (inb (fI (ws.getD t13.toNat []) 0) ps.length) (cond (g71 m4_0 m4_1 (fS (ps.getD (fI (ws.getD t13.toNat []) 0).toNat []) 0) (fI (ps.getD (fI (ws.getD t13.toNat []) 0).toNat []) 1) (fI (ps.getD (fI (ws.getD t13.toNat []) 0).toNat []) 2) (fI (ps.getD (fI (ws.getD t13.toNat []) 0).toNat []) 3) (fI (ps.getD (fI (ws.getD t13.toNat []) 0).toNat []) 4)) (cond (!w71_2 m4_0 m4_1 (fS (ps.getD (fI (ws.getD t13.toNat []) 0).toNat []) 0) (fI (ps.getD (fI (ws.getD t13.toNat []) 0).toNat []) 1) (fI (ps.getD (fI (ws.getD t13.toNat []) 0).toNat []) 2) (fI (ps.getD (fI (ws.getD t13.toNat []) 0).toNat []) 3) (fI (ps.getD (fI (ws.getD t13.toNat []) 0).toNat []) 4)) (some (.ret, o64a_0 ra rb rc ps t4 ws t12 false (w71_2 m4_0 m4_1 (fS (ps.getD (fI (ws.getD t13.toNat []) 0).toNat []) 0) (fI (ps.getD (fI (ws.getD t13.toNat []) 0).toNat []) 1) (fI (ps.getD (fI (ws.getD t13.toNat []) 0).toNat []) 2) (fI (ps.getD (fI (ws.getD t13.toNat []) 0).toNat []) 3) (fI (ps.getD (fI (ws.getD t13.toNat []) 0).toNat []) 4)) t13 (w71_0 m4_0 m4_1 (fS (ps.getD (fI (ws.getD t13.toNat []) 0).toNat []) 0) (fI (ps.getD (fI (ws.getD t13.toNat []) 0).toNat []) 1) (fI (ps.getD (fI (ws.getD t13.toNat []) 0).toNat []) 2) (fI (ps.getD (fI (ws.getD t13.toNat []) 0).toNat []) 3) (fI (ps.getD (fI (ws.getD t13.toNat []) 0).toNat []) 4)) (w71_1 m4_0 m4_1 (fS (ps.getD (fI (ws.getD t13.toNat []) 0).toNat []) 0) (fI (ps.getD (fI (ws.getD t13.toNat []) 0).toNat []) 1) (fI (ps.getD (fI (ws.getD t13.toNat []) 0).toNat []) 2) (fI (ps.getD (fI (ws.getD t13.toNat []) 0).toNat []) 3) (fI (ps.getD (fI (ws.getD t13.toNat []) 0).toNat []) 4)))) (some (.nrm, s64a ra rb rc ps t4 (w71_2 m4_0 m4_1 (fS (ps.getD (fI (ws.getD t13.toNat []) 0).toNat []) 0) (fI (ps.getD (fI (ws.getD t13.toNat []) 0).toNat []) 1) (fI (ps.getD (fI (ws.getD t13.toNat []) 0).toNat []) 2) (fI (ps.getD (fI (ws.getD t13.toNat []) 0).toNat []) 3) (fI (ps.getD (fI (ws.getD t13.toNat []) 0).toNat []) 4)) ws t12 (IntKind.i64.wrap (t13 + 1)) (w71_0 m4_0 m4_1 (fS (ps.getD (fI (ws.getD t13.toNat []) 0).toNat []) 0) (fI (ps.getD (fI (ws.getD t13.toNat []) 0).toNat []) 1) (fI (ps.getD (fI (ws.getD t13.toNat []) 0).toNat []) 2) (fI (ps.getD (fI (ws.getD t13.toNat []) 0).toNat []) 3) (fI (ps.getD (fI (ws.getD t13.toNat []) 0).toNat []) 4)) (w71_1 m4_0 m4_1 (fS (ps.getD (fI (ws.getD t13.toNat []) 0).toNat []) 0) (fI (ps.getD (fI (ws.getD t13.toNat []) 0).toNat []) 1) (fI (ps.getD (fI (ws.getD t13.toNat []) 0).toNat []) 2) (fI (ps.getD (fI (ws.getD t13.toNat []) 0).toNat []) 3) (fI (ps.getD (fI (ws.getD t13.toNat []) 0).toNat []) 4))))) (none)) (none))) (none)) (none)) (some (.ext 0, o64a_1 ra rb rc ps t4 ws t12 t6 t13 m4_0 m4_1)) := by kernel_rfl
theorem rnd64a (ra : Int) (rb : Int) (rc : Int) (ps : List (List AV)) (t4 : Bool) (ws : List (List AV)) (t12 : Int) (x : S64a) : round Try.prog SS11 (ro 64) L64 lp64a [false, true, false, true, true] [(2, none), (4, none), (5, none), (6, none), (11, none), (12, none), (13, none)] 5 ((fun x => s64a ra rb rc ps t4 x.t6 ws t12 x.t13 x.m4_0 x.m4_1) x) = toR (fun x => s64a ra rb rc ps t4 x.t6 ws t12 x.t13 x.m4_0 x.m4_1) (ou64a ra rb rc ps t4 ws t12) (stp64a ra rb rc ps t4 ws t12 x.t6 x.t13 x.m4_0 x.m4_1) := by
  refine (round64a _ _ _ _ _ _ _ _ _ _ _ ).trans ?_
  unfold stp64a
  simp only [toR_cond]
  rfl
theorem lok64a {st : St} {outs : List (Bool × Ex × St)} {e : Ex} {s : St} (hl : l64a st = some outs) (hch : Chosen outs e s) :
    ∃ keep nb, 0 ≤ nb ∧ LB Try.prog SS11 (ro 64) L64 lp64a [false, true, false, true, true] keep nb st e s := by
  unfold l64a at hl
  split at hl
  · rename_i ra rb rc ps t4 t6 ws t12 t13 m4_0 m4_1 hno
    cases hl
    have hno := normW_norm hno
    refine ⟨_, _, ?_, .enter hno ?_⟩
    · decide
    have main := fun y h => LB_run (x := (⟨t6, t13, m4_0, m4_1⟩ : S64a)) (y := y) (nb := 5) (fun y => by cases y <;> simp [ou64a]) (rnd64a ra rb rc ps t4 ws t12) h
    obtain ⟨x, hx, hg, rfl, rfl⟩ := chosen_any hch
    simp only [List.mem_cons, List.not_mem_nil, or_false] at hx
    rcases hx with rfl | rfl
    · exact main _ (is64a_0 ra rb rc ps t4 ws t12 t6 t13 m4_0 m4_1 hg)
    · exact main _ (is64a_1 ra rb rc ps t4 ws t12 t6 t13 m4_0 m4_1 hg)
  · cases hl
theorem L64_ok (q : Pl) (c : Code) (hq : locate c64 q.reverse = some (.loop c)) (st : St) (outs : List (Bool × Ex × St)) (e : Ex) (s : St) (hl : L64 q st = some outs) (hch : Chosen outs e s) :
    ∃ keep nb, 0 ≤ nb ∧ LB Try.prog SS11 (ro 64) L64 c q keep nb st e s := by
  unfold L64 at hl
  split at hl
  · have : locate c64 ([false, true, false, true, true] : Pl).reverse = some (.loop lp64a) := by kernel_rfl
    rw [this] at hq
    cases hq
    exact lok64a hl hch
  · cases hl
theorem lok64 : LOK Try.prog SS11 (ro 64) L64 0 false c64 [] :=
  lok_lo L64_ok c64 [] false (locate_nil _) (by kernel_rfl)
noncomputable def t64 (ra rb rc : Int) (ps : List (List AV)) (ws : List (List AV)) : Tr ((Bool)) :=
  .cn (i64a_0 ra rb rc ps false ws (↑ws.length : Int) true 0 (w52_0 ra rb rc ps) (w52_1 ra rb rc ps)) (.lf (v64a_0_t4' ra rb rc ps false ws (↑ws.length : Int) true 0 (w52_0 ra rb rc ps) (w52_1 ra rb rc ps))) (.cn (i64a_1 ra rb rc ps false ws (↑ws.length : Int) true 0 (w52_0 ra rb rc ps) (w52_1 ra rb rc ps)) (.lf (v64a_1_m4_0 ra rb rc ps false ws (↑ws.length : Int) true 0 (w52_0 ra rb rc ps) (w52_1 ra rb rc ps) == 0 && v64a_1_m4_1 ra rb rc ps false ws (↑ws.length : Int) true 0 (w52_0 ra rb rc ps) (w52_1 ra rb rc ps) == rc)) (.nn))
noncomputable def g64 (ra rb rc : Int) (ps : List (List AV)) (ws : List (List AV)) : Bool := (t64 ra rb rc ps ws).g
noncomputable def w64_0 (ra rb rc : Int) (ps : List (List AV)) (ws : List (List AV)) : Bool := (t64 ra rb rc ps ws).val
theorem eq64 (ra rb rc : Int) (ps : List (List AV)) (ws : List (List AV)) : evF Try.prog SS11 (ro 64) L64 Try.f64 [.agg [.i .i64 ra, .i .i64 rb, .i .i64 rc, .rs 31 ps], .rs 3 ws] = (t64 ra rb rc ps ws).opt (fun (x : (Bool)) => (.b x : AV)) := by kernel_rfl
theorem con64 (ra rb rc : Int) (ps : List (List AV)) (ws : List (List AV)) (h : g64 ra rb rc ps ws = true) : Con Try.prog 64 [.agg [.i .i64 ra, .i .i64 rb, .i .i64 rc, .rs 31 ps], .rs 3 ws] [] (.b (w64_0 ra rb rc ps ws)) [] :=
  con_of SS11_ok mixed Try.func64 (c := c64) rfl (names 64 _ Try.func64) lok64 ((eq64 ra rb rc ps ws).trans (Tr.sound _ _ h))
noncomputable def e64 (args : List AV) (rows : List Blk) : Option (Bool × AV × List Blk) := match args, rows with
  | [.agg [.i .i64 ra, .i .i64 rb, .i .i64 rc, .rs 31 ps], .rs 3 ws], [] => some (g64 ra rb rc ps ws, .b (w64_0 ra rb rc ps ws), [])
  | _, _ => none
theorem e64_ok (args : List AV) (rows : List Blk) (pre : Bool) (v : AV) (rows' : List Blk) (h : e64 args rows = some (pre, v, rows')) (hp : pre = true) : Con Try.prog 64 args rows v rows' := by
  unfold e64 at h
  split at h
  · cases h; exact con64 _ _ _ _ _ hp
  · cases h
-- SPEC 64
end Go.Proofs.Ytgifjphinkbcaaa

set_option maxRecDepth 100000
set_option linter.unusedVariables false
namespace Go.Proofs.Ytgifjphinkbcaaa
open Go Go.Ev
noncomputable def SS12 : Ev.Spec := insS 64 e64 (insS 29 e29 (S0))
theorem SS12_ok : SpecOK Try.prog SS12 := insS_ok e64_ok (insS_ok e29_ok (S0_ok))
end Go.Proofs.Ytgifjphinkbcaaa

set_option maxRecDepth 100000
set_option maxHeartbeats 0
set_option linter.unusedVariables false
namespace Go.Proofs.Ytgifjphinkbcaaa
open Go Go.Ev

/-! ### Needs -/
noncomputable def c34 : Code := match Try.f34.body with | some c => c | _ => .skip
noncomputable def lp34a : Code := loopAt c34 [true, true, true, true, false, true, false]
noncomputable def s34a (t5 : Int) (t7 : Nat) (ws : List (List AV)) (t24 : Int) (t25 : Int) (m15 : List (List AV)) : St :=
  { t := [(4, .nl), (5, .i .i64 t5), (7, .sl 15 0 t7), (23, .rs 3 ws), (24, .i .i64 t24), (25, .i .i64 t25)], m := [(0, .dead), (1, .dead), (2, .dead), (3, .dead), (4, .dead), (5, .dead), (6, .dead), (7, .dead), (8, .dead), (9, .dead), (10, .dead), (11, .dead), (12, .dead), (13, .dead), (14, .dead), (15, .row 3 m15)], nx := 16, nt := 37 }
structure S34a where
  t25 : Int
  m15 : List (List AV)
inductive T34a where
  | x0 (t25 : Int) (m15 : List (List AV))
noncomputable def stp34a (t5 : Int) (t7 : Nat) (ws : List (List AV)) (t24 : Int) (t25 : Int) (m15 : List (List AV)) : Lp S34a T34a :=
  cond (decide (t25 < t24)) (cond (inb t25 ws.length) (cond (inb (fI (ws.getD t25.toNat []) 0) t7 && (0 + (fI (ws.getD t25.toNat []) 0).toNat).blt m15.length) (cond ((0 + (fI (ws.getD t25.toNat []) 0).toNat).blt m15.length) (cond (inb (fI (ws.getD t25.toNat []) 0) t7 && (0 + (fI (ws.getD t25.toNat []) 0).toNat).blt m15.length) (cond ((0 + (fI (ws.getD t25.toNat []) 0).toNat).blt m15.length) (.go ⟨IntKind.i64.wrap (t25 + 1), m15.set (0 + (fI (ws.getD t25.toNat []) 0).toNat) (setCs (m15.getD (0 + (fI (ws.getD t25.toNat []) 0).toNat) []) 0 [AV.i IntKind.i64 (IntKind.i64.wrap (fI (m15.getD (0 + (fI (ws.getD t25.toNat []) 0).toNat) []) 0 + 1))])⟩) (.bad)) (.bad)) (.bad)) (.bad)) (.bad)) (.out (.x0 t25 m15))
noncomputable def o34a_0 (t5 : Int) (t7 : Nat) (ws : List (List AV)) (t24 : Int) (t25 : Int) (m15 : List (List AV)) : St :=
  { t := [(4, .nl), (5, .i .i64 t5), (7, .sl 15 0 t7), (23, .rs 3 ws), (24, .i .i64 t24), (25, .i .i64 t25)], m := [(0, .dead), (1, .dead), (2, .dead), (3, .dead), (4, .dead), (5, .dead), (6, .dead), (7, .dead), (8, .dead), (9, .dead), (10, .dead), (11, .dead), (12, .dead), (13, .dead), (14, .dead), (15, .row 3 m15)], nx := 16, nt := 37 }
noncomputable def ou34a (t5 : Int) (t7 : Nat) (ws : List (List AV)) (t24 : Int) : T34a → Ex × St
  | .x0 t25 m15 => (.ext 0, o34a_0 t5 t7 ws t24 t25 m15)
noncomputable def r34a (t5 : Int) (t7 : Nat) (ws : List (List AV)) (t24 : Int) (t25 : Int) (m15 : List (List AV)) : Option T34a := run (fun x => stp34a t5 t7 ws t24 x.t25 x.m15) (⟨t25, m15⟩ : S34a)
noncomputable def i34a_0 (t5 : Int) (t7 : Nat) (ws : List (List AV)) (t24 : Int) (t25 : Int) (m15 : List (List AV)) : Bool := match r34a t5 t7 ws t24 t25 m15 with
  | some (.x0 _ _) => true
  | _ => false
noncomputable def v34a_0_t25 (t5 : Int) (t7 : Nat) (ws : List (List AV)) (t24 : Int) (t25 : Int) (m15 : List (List AV)) : Int := match r34a t5 t7 ws t24 t25 m15 with
  | some (.x0 t25 _) => t25
  | _ => default
noncomputable def v34a_0_m15 (t5 : Int) (t7 : Nat) (ws : List (List AV)) (t24 : Int) (t25 : Int) (m15 : List (List AV)) : List (List AV) := match r34a t5 t7 ws t24 t25 m15 with
  | some (.x0 _ m15) => m15
  | _ => default
noncomputable def l34a (st : St) : Option (List (Bool × Ex × St)) := match normW Try.prog [(4, none), (5, none), (7, none), (23, none), (24, none), (25, none)] 16 st with
  | some ([.nl, .i .i64 t5, .sl 15 0 t7, .rs 3 ws, .i .i64 t24, .i .i64 t25], [(0, .dead), (1, .dead), (2, .dead), (3, .dead), (4, .dead), (5, .dead), (6, .dead), (7, .dead), (8, .dead), (9, .dead), (10, .dead), (11, .dead), (12, .dead), (13, .dead), (14, .dead), (15, .row 3 m15)], 16, 37) => some [(i34a_0 t5 t7 ws t24 t25 m15, .ext 0, o34a_0 t5 t7 ws t24 (v34a_0_t25 t5 t7 ws t24 t25 m15) (v34a_0_m15 t5 t7 ws t24 t25 m15))]
  | _ => none
noncomputable def L34 : LSpec := fun p st => match p with
  | [false, true, false, true, true, true, true] => l34a st
  | _ => none
theorem is34a_0 (t5 : Int) (t7 : Nat) (ws : List (List AV)) (t24 : Int) (t25 : Int) (m15 : List (List AV)) (h : i34a_0 t5 t7 ws t24 t25 m15 = true) : r34a t5 t7 ws t24 t25 m15 = some (.x0 (v34a_0_t25 t5 t7 ws t24 t25 m15) (v34a_0_m15 t5 t7 ws t24 t25 m15)) := by
  unfold i34a_0 at h
  unfold v34a_0_t25 v34a_0_m15
  generalize r34a t5 t7 ws t24 t25 m15 = r at h ⊢
  rcases r with _ | y
  · cases h
  · cases y <;> first | rfl | cases h
theorem round34a (t5 : Int) (t7 : Nat) (ws : List (List AV)) (t24 : Int) (t25 : Int) (m15 : List (List AV)) : round Try.prog SS12 (ro 34) L34 lp34a [false, true, false, true, true, true, true] [(4, none), (5, none), (7, none), (23, none), (24, none), (25, none)] 16 (s34a t5 t7 ws t24 t25 m15) =
    cond (decide (t25 < t24)) (cond (inb t25 ws.length) (cond (inb (fI (ws.getD t25.toNat []) 0) t7 && (0 + (fI (ws.getD t25.toNat []) 0).toNat).blt m15.length) (cond ((0 + (fI (ws.getD t25.toNat []) 0).toNat).blt m15.length) (cond (inb (fI (ws.getD t25.toNat []) 0) t7 && (0 + (fI (ws.getD t25.toNat []) 0).toNat).blt m15.length) (cond ((0 + (fI (ws.getD t25.toNat []) 0).toNat).blt m15.length) (some (.nrm, s34a t5 t7 ws t24 (IntKind.i64.wrap (t25 + 1)) (m15.set (0 + (fI (ws.getD t25.toNat []) 0).toNat) (setCs (m15.getD (0 + (fI (ws.getD t25.toNat []) 0).toNat) []) 0 [AV.i IntKind.i64 (IntKind.i64.wrap (fI (m15.getD (0 + (fI (ws.getD t25.toNat []) 0).toNat) []) 0 + 1))])))) (none)) (none)) (none)) (none)) (none)) (some (.ext 0, o34a_0 t5 t7 ws t24 t25 m15)) := by kernel_rfl
theorem rnd34a (t5 : Int) (t7 : Nat) (ws : List (List AV)) (t24 : Int) (x : S34a) : round Try.prog SS12 (ro 34) L34 lp34a [false, true, false, true, true, true, true] [(4, none), (5, none), (7, none), (23, none), (24, none), (25, none)] 16 ((fun x => s34a t5 t7 ws t24 x.t25 x.m15) x) = toR (fun x => s34a t5 t7 ws t24 x.t25 x.m15) (ou34a t5 t7 ws t24) (stp34a t5 t7 ws t24 x.t25 x.m15) := by
  refine (round34a _ _ _ _ _ _ ).trans ?_
  unfold stp34a
  simp only [toR_cond]
  rfl
theorem lok34a {st : St} {outs : List (Bool × Ex × St)} {e : Ex} {s : St} (hl : l34a st = some outs) (hch : Chosen outs e s) :
    ∃ keep nb, 0 ≤ nb ∧ LB Try.prog SS12 (ro 34) L34 lp34a [false, true, false, true, true, true, true] keep nb st e s := by
  unfold l34a at hl
  split at hl
  · rename_i t5 t7 ws t24 t25 m15 hno
    cases hl
    have hno := normW_norm hno
    refine ⟨_, _, ?_, .enter hno ?_⟩
    · decide
    have main := fun y h => LB_run (x := (⟨t25, m15⟩ : S34a)) (y := y) (nb := 16) (fun y => by cases y <;> simp [ou34a]) (rnd34a t5 t7 ws t24) h
    obtain ⟨x, hx, hg, rfl, rfl⟩ := chosen_any hch
    simp only [List.mem_cons, List.not_mem_nil, or_false] at hx
    subst hx
    exact main _ (is34a_0 t5 t7 ws t24 t25 m15 hg)
  · cases hl
theorem L34_ok (q : Pl) (c : Code) (hq : locate c34 q.reverse = some (.loop c)) (st : St) (outs : List (Bool × Ex × St)) (e : Ex) (s : St) (hl : L34 q st = some outs) (hch : Chosen outs e s) :
    ∃ keep nb, 0 ≤ nb ∧ LB Try.prog SS12 (ro 34) L34 c q keep nb st e s := by
  unfold L34 at hl
  split at hl
  · have : locate c34 ([false, true, false, true, true, true, true] : Pl).reverse = some (.loop lp34a) := by kernel_rfl
    rw [this] at hq
    cases hq
    exact lok34a hl hch
  · cases hl
theorem lok34 : LOK Try.prog SS12 (ro 34) L34 0 false c34 [] :=
  lok_lo L34_ok c34 [] false (locate_nil _) (by kernel_rfl)
noncomputable def t34 (ra rb rc : Int) (ps : List (List AV)) (ws : List (List AV)) : Tr ((List (List AV)) × (Int)) :=
  .cn (g29 ra rb rc ps) (.cn (w29_0 ra rb rc ps != 0) (.lf ([], w29_0 ra rb rc ps)) (.cn (g64 ra rb rc ps ws) (.cn (!w64_0 ra rb rc ps ws) (.lf ([], 8)) (.cn (decide ((↑ps.length : Int) = (↑ps.length : Int)) && (decide (0 ≤ (↑ps.length : Int)) && decide ((↑ps.length : Int) * (↑8 : Int) ≤ 140737488355328) && decide ((↑ps.length : Int) ≤ 9223372036854775807))) (.cn (i34a_0 0 (↑ps.length : Int).toNat ws (↑ws.length : Int) 0 (List.replicate (↑ps.length : Int).toNat [AV.i IntKind.i64 0])) (.cn ((0 + (↑ps.length : Int).toNat).ble (v34a_0_m15 0 (↑ps.length : Int).toNat ws (↑ws.length : Int) 0 (List.replicate (↑ps.length : Int).toNat [AV.i IntKind.i64 0])).length) (.lf (bif (↑ps.length : Int).toNat.beq (v34a_0_m15 0 (↑ps.length : Int).toNat ws (↑ws.length : Int) 0 (List.replicate (↑ps.length : Int).toNat [AV.i IntKind.i64 0])).length then v34a_0_m15 0 (↑ps.length : Int).toNat ws (↑ws.length : Int) 0 (List.replicate (↑ps.length : Int).toNat [AV.i IntKind.i64 0]) else List.take (↑ps.length : Int).toNat (List.drop 0 (v34a_0_m15 0 (↑ps.length : Int).toNat ws (↑ws.length : Int) 0 (List.replicate (↑ps.length : Int).toNat [AV.i IntKind.i64 0]))), 0)) (.nn)) (.nn)) (.nn))) (.nn))) (.nn)
noncomputable def g34 (ra rb rc : Int) (ps : List (List AV)) (ws : List (List AV)) : Bool := (t34 ra rb rc ps ws).g
noncomputable def w34_0 (ra rb rc : Int) (ps : List (List AV)) (ws : List (List AV)) : List (List AV) := (t34 ra rb rc ps ws).val.1
noncomputable def w34_1 (ra rb rc : Int) (ps : List (List AV)) (ws : List (List AV)) : Int := (t34 ra rb rc ps ws).val.2
noncomputable def a34 (ra rb rc : Int) (ps : List (List AV)) (ws : List (List AV)) : Tr AV :=
  .cn (g29 ra rb rc ps) (.cn (w29_0 ra rb rc ps != 0) (.lf (.tup [.nl, .i .i64 (w29_0 ra rb rc ps)])) (.cn (g64 ra rb rc ps ws) (.cn (!w64_0 ra rb rc ps ws) (.lf (.tup [.nl, .i .i64 8])) (.cn (decide ((↑ps.length : Int) = (↑ps.length : Int)) && (decide (0 ≤ (↑ps.length : Int)) && decide ((↑ps.length : Int) * (↑8 : Int) ≤ 140737488355328) && decide ((↑ps.length : Int) ≤ 9223372036854775807))) (.cn (i34a_0 0 (↑ps.length : Int).toNat ws (↑ws.length : Int) 0 (List.replicate (↑ps.length : Int).toNat [AV.i IntKind.i64 0])) (.cn ((0 + (↑ps.length : Int).toNat).ble (v34a_0_m15 0 (↑ps.length : Int).toNat ws (↑ws.length : Int) 0 (List.replicate (↑ps.length : Int).toNat [AV.i IntKind.i64 0])).length) (.lf (.tup [.rs 3 (bif (↑ps.length : Int).toNat.beq (v34a_0_m15 0 (↑ps.length : Int).toNat ws (↑ws.length : Int) 0 (List.replicate (↑ps.length : Int).toNat [AV.i IntKind.i64 0])).length then v34a_0_m15 0 (↑ps.length : Int).toNat ws (↑ws.length : Int) 0 (List.replicate (↑ps.length : Int).toNat [AV.i IntKind.i64 0]) else List.take (↑ps.length : Int).toNat (List.drop 0 (v34a_0_m15 0 (↑ps.length : Int).toNat ws (↑ws.length : Int) 0 (List.replicate (↑ps.length : Int).toNat [AV.i IntKind.i64 0])))), .i .i64 0])) (.nn)) (.nn)) (.nn))) (.nn))) (.nn)
theorem eq34 (ra rb rc : Int) (ps : List (List AV)) (ws : List (List AV)) : evF Try.prog SS12 (ro 34) L34 Try.f34 [.agg [.i .i64 ra, .i .i64 rb, .i .i64 rc, .rs 31 ps], .rs 3 ws] = (a34 ra rb rc ps ws).opt id := by kernel_rfl
theorem wk34 (ra rb rc : Int) (ps : List (List AV)) (ws : List (List AV)) : (a34 ra rb rc ps ws).map (wkV [some 3, none]) = (t34 ra rb rc ps ws).map (fun (x : (List (List AV)) × (Int)) => (.tup [.rs 3 x.1, .i .i64 x.2] : AV)) := by kernel_rfl
theorem con34 (ra rb rc : Int) (ps : List (List AV)) (ws : List (List AV)) (h : g34 ra rb rc ps ws = true) : Con Try.prog 34 [.agg [.i .i64 ra, .i .i64 rb, .i .i64 rc, .rs 31 ps], .rs 3 ws] [] (.tup [.rs 3 (w34_0 ra rb rc ps ws), .i .i64 (w34_1 ra rb rc ps ws)]) [] := by
  obtain ⟨v, h1, h2⟩ := Tr.soundW (eq34 ra rb rc ps ws) (wk34 ra rb rc ps ws) h
  have := (con_of SS12_ok mixed Try.func34 (c := c34) rfl (names 34 _ Try.func34) lok34 h1).wk [some 3, none]
  rw [h2] at this
  exact this
noncomputable def e34 (args : List AV) (rows : List Blk) : Option (Bool × AV × List Blk) := match args, rows with
  | [.agg [.i .i64 ra, .i .i64 rb, .i .i64 rc, .rs 31 ps], .rs 3 ws], [] => some (g34 ra rb rc ps ws, .tup [.rs 3 (w34_0 ra rb rc ps ws), .i .i64 (w34_1 ra rb rc ps ws)], [])
  | _, _ => none
theorem e34_ok (args : List AV) (rows : List Blk) (pre : Bool) (v : AV) (rows' : List Blk) (h : e34 args rows = some (pre, v, rows')) (hp : pre = true) : Con Try.prog 34 args rows v rows' := by
  unfold e34 at h
  split at h
  · cases h; exact con34 _ _ _ _ _ hp
  · cases h
-- SPEC 34
end Go.Proofs.Ytgifjphinkbcaaa

set_option maxRecDepth 100000
set_option linter.unusedVariables false
namespace Go.Proofs.Ytgifjphinkbcaaa
open Go Go.Ev
noncomputable def SS9 : Ev.Spec := insS 20 e20 (S0)
theorem SS9_ok : SpecOK Try.prog SS9 := insS_ok e20_ok (S0_ok)
end Go.Proofs.Ytgifjphinkbcaaa

set_option maxRecDepth 100000
set_option maxHeartbeats 0
set_option linter.unusedVariables false
namespace Go.Proofs.Ytgifjphinkbcaaa
open Go Go.Ev

/-! ### some -/
noncomputable def c39 : Code := match Try.f39.body with | some c => c | _ => .skip
theorem lok39 : LOK Try.prog SS9 (ro 39) (fun _ _ => none) 0 false c39 [] :=
  lok_lo (fun _ _ _ _ _ _ _ h _ => by cases h) c39 [] false (locate_nil _) (by kernel_rfl)
noncomputable def t39 (ra rb rc : Int) (ps : List (List AV)) (x : Int) : Tr ((Int) × (Bool)) :=
  .cn (g20 ra rb rc ps) (.cn (w20_1 ra rb rc ps != 0) (.lf (0, false)) (.cn (decide (w20_0 ra rb rc ps < 1)) (.lf (0, false)) (.cn (decide (x < 0)) (.lf (0, false)) (.cn (decide (w20_0 ra rb rc ps = 0)) (.nn) (.lf (x.tmod (w20_0 ra rb rc ps), true)))))) (.nn)
noncomputable def g39 (ra rb rc : Int) (ps : List (List AV)) (x : Int) : Bool := (t39 ra rb rc ps x).g
noncomputable def w39_0 (ra rb rc : Int) (ps : List (List AV)) (x : Int) : Int := (t39 ra rb rc ps x).val.1
noncomputable def w39_1 (ra rb rc : Int) (ps : List (List AV)) (x : Int) : Bool := (t39 ra rb rc ps x).val.2
theorem eq39 (ra rb rc : Int) (ps : List (List AV)) (x : Int) : evF Try.prog SS9 (ro 39) (fun _ _ => none) Try.f39 [.agg [.i .i64 ra, .i .i64 rb, .i .i64 rc, .rs 31 ps], .i .i64 x] = (t39 ra rb rc ps x).opt (fun (x : (Int) × (Bool)) => (.tup [.i .i64 x.1, .b x.2] : AV)) := by kernel_rfl
theorem con39 (ra rb rc : Int) (ps : List (List AV)) (x : Int) (h : g39 ra rb rc ps x = true) : Con Try.prog 39 [.agg [.i .i64 ra, .i .i64 rb, .i .i64 rc, .rs 31 ps], .i .i64 x] [] (.tup [.i .i64 (w39_0 ra rb rc ps x), .b (w39_1 ra rb rc ps x)]) [] :=
  con_of SS9_ok mixed Try.func39 (c := c39) rfl (names 39 _ Try.func39) lok39 ((eq39 ra rb rc ps x).trans (Tr.sound _ _ h))
noncomputable def e39 (args : List AV) (rows : List Blk) : Option (Bool × AV × List Blk) := match args, rows with
  | [.agg [.i .i64 ra, .i .i64 rb, .i .i64 rc, .rs 31 ps], .i .i64 x], [] => some (g39 ra rb rc ps x, .tup [.i .i64 (w39_0 ra rb rc ps x), .b (w39_1 ra rb rc ps x)], [])
  | _, _ => none
theorem e39_ok (args : List AV) (rows : List Blk) (pre : Bool) (v : AV) (rows' : List Blk) (h : e39 args rows = some (pre, v, rows')) (hp : pre = true) : Con Try.prog 39 args rows v rows' := by
  unfold e39 at h
  split at h
  · cases h; exact con39 _ _ _ _ _ hp
  · cases h
-- SPEC 39
end Go.Proofs.Ytgifjphinkbcaaa

set_option maxRecDepth 100000
set_option linter.unusedVariables false
namespace Go.Proofs.Ytgifjphinkbcaaa
open Go Go.Ev
noncomputable def SS10 : Ev.Spec := insS 71 e71 (insS 55 e55 (insS 52 e52 (insS 51 e51 (insS 50 e50 (S0)))))
theorem SS10_ok : SpecOK Try.prog SS10 := insS_ok e71_ok (insS_ok e55_ok (insS_ok e52_ok (insS_ok e51_ok (insS_ok e50_ok (S0_ok)))))
end Go.Proofs.Ytgifjphinkbcaaa

set_option maxRecDepth 100000
set_option maxHeartbeats 0
set_option linter.unusedVariables false
namespace Go.Proofs.Ytgifjphinkbcaaa
open Go Go.Ev

/-! ### Nth -/
noncomputable def c40 : Code := match Try.f40.body with | some c => c | _ => .skip
noncomputable def lp40a : Code := loopAt c40 [true, true, true, true, true, true, false, false]
noncomputable def s40a (x : Int) (ra : Int) (rb : Int) (rc : Int) (ps : List (List AV)) (t5 : Int) (t6 : List (List AV)) (t9 : List (List AV)) (m14_0 : Int) (m14_1 : Int) : St :=
  { t := [(1, .i .i64 x), (2, .rp [.int .i64, .int .i64, .int .i64, .sl 31] [.i .i64 ra, .i .i64 rb, .i .i64 rc, .rs 31 ps] 0), (4, .nl), (5, .i .i64 t5), (6, .rs 91 t6), (8, .p 14 0 0), (9, .gv 15 3 t9)], m := [(15, .fr 3), (0, .dead), (1, .dead), (2, .dead), (3, .dead), (4, .dead), (5, .dead), (6, .dead), (7, .dead), (8, .dead), (9, .dead), (10, .dead), (11, .dead), (12, .dead), (13, .dead), (14, .row 78 [[.i .i64 m14_0, .i .i64 m14_1]])], nx := 16, nt := 67 }
noncomputable def lp40aa : Code := loopAt c40 [true, true, true, true, true, true, false, false, false, true, false, true, false]
noncomputable def s40aa (x : Int) (ra : Int) (rb : Int) (rc : Int) (ps : List (List AV)) (t5 : Int) (t6 : List (List AV)) (t9 : List (List AV)) (t36 : List (List AV)) (t37 : Int) (t38 : Int) (m14_0 : Int) (m14_1 : Int) : St :=
  { t := [(1, .i .i64 x), (2, .rp [.int .i64, .int .i64, .int .i64, .sl 31] [.i .i64 ra, .i .i64 rb, .i .i64 rc, .rs 31 ps] 0), (4, .nl), (5, .i .i64 t5), (6, .rs 91 t6), (8, .p 14 0 0), (9, .gv 15 3 t9), (36, .rs 31 t36), (37, .i .i64 t37), (38, .i .i64 t38)], m := [(15, .fr 3), (0, .dead), (1, .dead), (2, .dead), (3, .dead), (4, .dead), (5, .dead), (6, .dead), (7, .dead), (8, .dead), (9, .dead), (10, .dead), (11, .dead), (12, .dead), (13, .dead), (14, .row 78 [[.i .i64 m14_0, .i .i64 m14_1]])], nx := 16, nt := 67 }
structure S40aa where
  x : Int
  t38 : Int
inductive T40aa where
  | x0 (t1 : Int) (t9' : List (List AV)) (t38 : Int) (m14_0' : Int) (m14_1' : Int)
noncomputable def stp40aa (ra : Int) (rb : Int) (rc : Int) (ps : List (List AV)) (t5 : Int) (t6 : List (List AV)) (t9 : List (List AV)) (t36 : List (List AV)) (t37 : Int) (m14_0 : Int) (m14_1 : Int) (x : Int) (t38 : Int) : Lp S40aa T40aa :=
  cond (decide (t38 < t37)) (cond (inb t38 t36.length) (cond (g71 m14_0 m14_1 (fS (t36.getD t38.toNat []) 0) (fI (t36.getD t38.toNat []) 1) (fI (t36.getD t38.toNat []) 2) (fI (t36.getD t38.toNat []) 3) (fI (t36.getD t38.toNat []) 4)) (cond (!w71_2 m14_0 m14_1 (fS (t36.getD t38.toNat []) 0) (fI (t36.getD t38.toNat []) 1) (fI (t36.getD t38.toNat []) 2) (fI (t36.getD t38.toNat []) 3) (fI (t36.getD t38.toNat []) 4)) (.go ⟨x, IntKind.i64.wrap (t38 + 1)⟩) (cond (g51 t6 (w71_0 m14_0 m14_1 (fS (t36.getD t38.toNat []) 0) (fI (t36.getD t38.toNat []) 1) (fI (t36.getD t38.toNat []) 2) (fI (t36.getD t38.toNat []) 3) (fI (t36.getD t38.toNat []) 4)) (w71_1 m14_0 m14_1 (fS (t36.getD t38.toNat []) 0) (fI (t36.getD t38.toNat []) 1) (fI (t36.getD t38.toNat []) 2) (fI (t36.getD t38.toNat []) 3) (fI (t36.getD t38.toNat []) 4))) (cond (decide (x ≥ w51_0 t6 (w71_0 m14_0 m14_1 (fS (t36.getD t38.toNat []) 0) (fI (t36.getD t38.toNat []) 1) (fI (t36.getD t38.toNat []) 2) (fI (t36.getD t38.toNat []) 3) (fI (t36.getD t38.toNat []) 4)) (w71_1 m14_0 m14_1 (fS (t36.getD t38.toNat []) 0) (fI (t36.getD t38.toNat []) 1) (fI (t36.getD t38.toNat []) 2) (fI (t36.getD t38.toNat []) 3) (fI (t36.getD t38.toNat []) 4)))) (.go ⟨IntKind.i64.wrap (x - w51_0 t6 (w71_0 m14_0 m14_1 (fS (t36.getD t38.toNat []) 0) (fI (t36.getD t38.toNat []) 1) (fI (t36.getD t38.toNat []) 2) (fI (t36.getD t38.toNat []) 3) (fI (t36.getD t38.toNat []) 4)) (w71_1 m14_0 m14_1 (fS (t36.getD t38.toNat []) 0) (fI (t36.getD t38.toNat []) 1) (fI (t36.getD t38.toNat []) 2) (fI (t36.getD t38.toNat []) 3) (fI (t36.getD t38.toNat []) 4))), IntKind.i64.wrap (t38 + 1)⟩) (cond ((t9.length + [[AV.i IntKind.i64 t38]].length).ble 9223372036854775807 && true) (cond (((t9.length + [[AV.i IntKind.i64 t38]].length) * 8).ble 140737488355328) (.out (.x0 x (t9 ++ [[AV.i IntKind.i64 t38]]) t38 (w71_0 m14_0 m14_1 (fS (t36.getD t38.toNat []) 0) (fI (t36.getD t38.toNat []) 1) (fI (t36.getD t38.toNat []) 2) (fI (t36.getD t38.toNat []) 3) (fI (t36.getD t38.toNat []) 4)) (w71_1 m14_0 m14_1 (fS (t36.getD t38.toNat []) 0) (fI (t36.getD t38.toNat []) 1) (fI (t36.getD t38.toNat []) 2) (fI (t36.getD t38.toNat []) 3) (fI (t36.getD t38.toNat []) 4)))) (.bad)) (.bad))) (.bad))) (.bad)) (.bad)) (.out (.x0 x t9 t38 m14_0 m14_1))
noncomputable def o40aa_0 (ra : Int) (rb : Int) (rc : Int) (ps : List (List AV)) (t5 : Int) (t6 : List (List AV)) (t9 : List (List AV)) (t36 : List (List AV)) (t37 : Int) (m14_0 : Int) (m14_1 : Int) (t1 : Int) (t9' : List (List AV)) (t38 : Int) (m14_0' : Int) (m14_1' : Int) : St :=
  { t := [(1, .i .i64 t1), (2, .rp [.int .i64, .int .i64, .int .i64, .sl 31] [.i .i64 ra, .i .i64 rb, .i .i64 rc, .rs 31 ps] 0), (4, .nl), (5, .i .i64 t5), (6, .rs 91 t6), (8, .p 14 0 0), (9, .gv 15 3 t9'), (36, .rs 31 t36), (37, .i .i64 t37), (38, .i .i64 t38)], m := [(15, .fr 3), (0, .dead), (1, .dead), (2, .dead), (3, .dead), (4, .dead), (5, .dead), (6, .dead), (7, .dead), (8, .dead), (9, .dead), (10, .dead), (11, .dead), (12, .dead), (13, .dead), (14, .row 78 [[.i .i64 m14_0', .i .i64 m14_1']])], nx := 16, nt := 67 }
noncomputable def ou40aa (ra : Int) (rb : Int) (rc : Int) (ps : List (List AV)) (t5 : Int) (t6 : List (List AV)) (t9 : List (List AV)) (t36 : List (List AV)) (t37 : Int) (m14_0 : Int) (m14_1 : Int) : T40aa → Ex × St
  | .x0 t1 t9' t38 m14_0' m14_1' => (.ext 2, o40aa_0 ra rb rc ps t5 t6 t9 t36 t37 m14_0 m14_1 t1 t9' t38 m14_0' m14_1')
noncomputable def r40aa (ra : Int) (rb : Int) (rc : Int) (ps : List (List AV)) (t5 : Int) (t6 : List (List AV)) (t9 : List (List AV)) (t36 : List (List AV)) (t37 : Int) (m14_0 : Int) (m14_1 : Int) (x : Int) (t38 : Int) : Option T40aa := run (fun x => stp40aa ra rb rc ps t5 t6 t9 t36 t37 m14_0 m14_1 x.x x.t38) (⟨x, t38⟩ : S40aa)
noncomputable def i40aa_0 (ra : Int) (rb : Int) (rc : Int) (ps : List (List AV)) (t5 : Int) (t6 : List (List AV)) (t9 : List (List AV)) (t36 : List (List AV)) (t37 : Int) (m14_0 : Int) (m14_1 : Int) (x : Int) (t38 : Int) : Bool := match r40aa ra rb rc ps t5 t6 t9 t36 t37 m14_0 m14_1 x t38 with
  | some (.x0 _ _ _ _ _) => true
  | _ => false
noncomputable def v40aa_0_t1 (ra : Int) (rb : Int) (rc : Int) (ps : List (List AV)) (t5 : Int) (t6 : List (List AV)) (t9 : List (List AV)) (t36 : List (List AV)) (t37 : Int) (m14_0 : Int) (m14_1 : Int) (x : Int) (t38 : Int) : Int := match r40aa ra rb rc ps t5 t6 t9 t36 t37 m14_0 m14_1 x t38 with
  | some (.x0 t1 _ _ _ _) => t1
  | _ => default
noncomputable def v40aa_0_t9' (ra : Int) (rb : Int) (rc : Int) (ps : List (List AV)) (t5 : Int) (t6 : List (List AV)) (t9 : List (List AV)) (t36 : List (List AV)) (t37 : Int) (m14_0 : Int) (m14_1 : Int) (x : Int) (t38 : Int) : List (List AV) := match r40aa ra rb rc ps t5 t6 t9 t36 t37 m14_0 m14_1 x t38 with
  | some (.x0 _ t9' _ _ _) => t9'
  | _ => default
noncomputable def v40aa_0_t38 (ra : Int) (rb : Int) (rc : Int) (ps : List (List AV)) (t5 : Int) (t6 : List (List AV)) (t9 : List (List AV)) (t36 : List (List AV)) (t37 : Int) (m14_0 : Int) (m14_1 : Int) (x : Int) (t38 : Int) : Int := match r40aa ra rb rc ps t5 t6 t9 t36 t37 m14_0 m14_1 x t38 with
  | some (.x0 _ _ t38 _ _) => t38
  | _ => default
noncomputable def v40aa_0_m14_0' (ra : Int) (rb : Int) (rc : Int) (ps : List (List AV)) (t5 : Int) (t6 : List (List AV)) (t9 : List (List AV)) (t36 : List (List AV)) (t37 : Int) (m14_0 : Int) (m14_1 : Int) (x : Int) (t38 : Int) : Int := match r40aa ra rb rc ps t5 t6 t9 t36 t37 m14_0 m14_1 x t38 with
  | some (.x0 _ _ _ m14_0' _) => m14_0'
  | _ => default
noncomputable def v40aa_0_m14_1' (ra : Int) (rb : Int) (rc : Int) (ps : List (List AV)) (t5 : Int) (t6 : List (List AV)) (t9 : List (List AV)) (t36 : List (List AV)) (t37 : Int) (m14_0 : Int) (m14_1 : Int) (x : Int) (t38 : Int) : Int := match r40aa ra rb rc ps t5 t6 t9 t36 t37 m14_0 m14_1 x t38 with
  | some (.x0 _ _ _ _ m14_1') => m14_1'
  | _ => default
noncomputable def l40aa (st : St) : Option (List (Bool × Ex × St)) := match normW Try.prog [(1, none), (2, none), (4, none), (5, none), (6, none), (8, none), (9, some 3), (36, none), (37, none), (38, none)] 15 st with
  | some ([.i .i64 x, .rp [.int .i64, .int .i64, .int .i64, .sl 31] [.i .i64 ra, .i .i64 rb, .i .i64 rc, .rs 31 ps] 0, .nl, .i .i64 t5, .rs 91 t6, .p 14 0 0, .gv 15 3 t9, .rs 31 t36, .i .i64 t37, .i .i64 t38], [(15, .fr 3), (0, .dead), (1, .dead), (2, .dead), (3, .dead), (4, .dead), (5, .dead), (6, .dead), (7, .dead), (8, .dead), (9, .dead), (10, .dead), (11, .dead), (12, .dead), (13, .dead), (14, .row 78 [[.i .i64 m14_0, .i .i64 m14_1]])], 16, 67) => some [(i40aa_0 ra rb rc ps t5 t6 t9 t36 t37 m14_0 m14_1 x t38, .ext 2, o40aa_0 ra rb rc ps t5 t6 t9 t36 t37 m14_0 m14_1 (v40aa_0_t1 ra rb rc ps t5 t6 t9 t36 t37 m14_0 m14_1 x t38) (v40aa_0_t9' ra rb rc ps t5 t6 t9 t36 t37 m14_0 m14_1 x t38) (v40aa_0_t38 ra rb rc ps t5 t6 t9 t36 t37 m14_0 m14_1 x t38) (v40aa_0_m14_0' ra rb rc ps t5 t6 t9 t36 t37 m14_0 m14_1 x t38) (v40aa_0_m14_1' ra rb rc ps t5 t6 t9 t36 t37 m14_0 m14_1 x t38))]
  | _ => none
structure S40a where
  x : Int
  t9 : List (List AV)
  m14_0 : Int
  m14_1 : Int
inductive T40a where
  | x0 (t1 : Int) (t9 : List (List AV)) (m14_0 : Int) (m14_1 : Int)
noncomputable def stp40a (ra : Int) (rb : Int) (rc : Int) (ps : List (List AV)) (t5 : Int) (t6 : List (List AV)) (x : Int) (t9 : List (List AV)) (m14_0 : Int) (m14_1 : Int) : Lp S40a T40a :=
  cond (decide (m14_0 > 0)) (cond (i40aa_0 ra rb rc ps t5 t6 t9 ps (↑ps.length : Int) m14_0 m14_1 x 0) (.go ⟨v40aa_0_t1 ra rb rc ps t5 t6 t9 ps (↑ps.length : Int) m14_0 m14_1 x 0, v40aa_0_t9' ra rb rc ps t5 t6 t9 ps (↑ps.length : Int) m14_0 m14_1 x 0, v40aa_0_m14_0' ra rb rc ps t5 t6 t9 ps (↑ps.length : Int) m14_0 m14_1 x 0, v40aa_0_m14_1' ra rb rc ps t5 t6 t9 ps (↑ps.length : Int) m14_0 m14_1 x 0⟩) (.bad)) (.out (.x0 x t9 m14_0 m14_1))
noncomputable def o40a_0 (ra : Int) (rb : Int) (rc : Int) (ps : List (List AV)) (t5 : Int) (t6 : List (List AV)) (t1 : Int) (t9 : List (List AV)) (m14_0 : Int) (m14_1 : Int) : St :=
  { t := [(1, .i .i64 t1), (2, .rp [.int .i64, .int .i64, .int .i64, .sl 31] [.i .i64 ra, .i .i64 rb, .i .i64 rc, .rs 31 ps] 0), (4, .nl), (5, .i .i64 t5), (6, .rs 91 t6), (8, .p 14 0 0), (9, .gv 15 3 t9)], m := [(15, .fr 3), (0, .dead), (1, .dead), (2, .dead), (3, .dead), (4, .dead), (5, .dead), (6, .dead), (7, .dead), (8, .dead), (9, .dead), (10, .dead), (11, .dead), (12, .dead), (13, .dead), (14, .row 78 [[.i .i64 m14_0, .i .i64 m14_1]])], nx := 16, nt := 67 }
noncomputable def ou40a (ra : Int) (rb : Int) (rc : Int) (ps : List (List AV)) (t5 : Int) (t6 : List (List AV)) : T40a → Ex × St
  | .x0 t1 t9 m14_0 m14_1 => (.ext 0, o40a_0 ra rb rc ps t5 t6 t1 t9 m14_0 m14_1)
noncomputable def r40a (ra : Int) (rb : Int) (rc : Int) (ps : List (List AV)) (t5 : Int) (t6 : List (List AV)) (x : Int) (t9 : List (List AV)) (m14_0 : Int) (m14_1 : Int) : Option T40a := run (fun x => stp40a ra rb rc ps t5 t6 x.x x.t9 x.m14_0 x.m14_1) (⟨x, t9, m14_0, m14_1⟩ : S40a)
noncomputable def i40a_0 (ra : Int) (rb : Int) (rc : Int) (ps : List (List AV)) (t5 : Int) (t6 : List (List AV)) (x : Int) (t9 : List (List AV)) (m14_0 : Int) (m14_1 : Int) : Bool := match r40a ra rb rc ps t5 t6 x t9 m14_0 m14_1 with
  | some (.x0 _ _ _ _) => true
  | _ => false
noncomputable def v40a_0_t1 (ra : Int) (rb : Int) (rc : Int) (ps : List (List AV)) (t5 : Int) (t6 : List (List AV)) (x : Int) (t9 : List (List AV)) (m14_0 : Int) (m14_1 : Int) : Int := match r40a ra rb rc ps t5 t6 x t9 m14_0 m14_1 with
  | some (.x0 t1 _ _ _) => t1
  | _ => default
noncomputable def v40a_0_t9 (ra : Int) (rb : Int) (rc : Int) (ps : List (List AV)) (t5 : Int) (t6 : List (List AV)) (x : Int) (t9 : List (List AV)) (m14_0 : Int) (m14_1 : Int) : List (List AV) := match r40a ra rb rc ps t5 t6 x t9 m14_0 m14_1 with
  | some (.x0 _ t9 _ _) => t9
  | _ => default
noncomputable def v40a_0_m14_0 (ra : Int) (rb : Int) (rc : Int) (ps : List (List AV)) (t5 : Int) (t6 : List (List AV)) (x : Int) (t9 : List (List AV)) (m14_0 : Int) (m14_1 : Int) : Int := match r40a ra rb rc ps t5 t6 x t9 m14_0 m14_1 with
  | some (.x0 _ _ m14_0 _) => m14_0
  | _ => default
noncomputable def v40a_0_m14_1 (ra : Int) (rb : Int) (rc : Int) (ps : List (List AV)) (t5 : Int) (t6 : List (List AV)) (x : Int) (t9 : List (List AV)) (m14_0 : Int) (m14_1 : Int) : Int := match r40a ra rb rc ps t5 t6 x t9 m14_0 m14_1 with
  | some (.x0 _ _ _ m14_1) => m14_1
  | _ => default
noncomputable def l40a (st : St) : Option (List (Bool × Ex × St)) := match normW Try.prog [(1, none), (2, none), (4, none), (5, none), (6, none), (8, none), (9, some 3)] 15 st with
  | some ([.i .i64 x, .rp [.int .i64, .int .i64, .int .i64, .sl 31] [.i .i64 ra, .i .i64 rb, .i .i64 rc, .rs 31 ps] 0, .nl, .i .i64 t5, .rs 91 t6, .p 14 0 0, .gv 15 3 t9], [(15, .fr 3), (0, .dead), (1, .dead), (2, .dead), (3, .dead), (4, .dead), (5, .dead), (6, .dead), (7, .dead), (8, .dead), (9, .dead), (10, .dead), (11, .dead), (12, .dead), (13, .dead), (14, .row 78 [[.i .i64 m14_0, .i .i64 m14_1]])], 16, 67) => some [(i40a_0 ra rb rc ps t5 t6 x t9 m14_0 m14_1, .ext 0, o40a_0 ra rb rc ps t5 t6 (v40a_0_t1 ra rb rc ps t5 t6 x t9 m14_0 m14_1) (v40a_0_t9 ra rb rc ps t5 t6 x t9 m14_0 m14_1) (v40a_0_m14_0 ra rb rc ps t5 t6 x t9 m14_0 m14_1) (v40a_0_m14_1 ra rb rc ps t5 t6 x t9 m14_0 m14_1))]
  | _ => none
noncomputable def L40 : LSpec := fun p st => match p with
  | [false, true, false, true, false, false, false, true, true, true, true, true, true] => l40aa st
  | [false, false, true, true, true, true, true, true] => l40a st
  | _ => none
theorem is40aa_0 (ra : Int) (rb : Int) (rc : Int) (ps : List (List AV)) (t5 : Int) (t6 : List (List AV)) (t9 : List (List AV)) (t36 : List (List AV)) (t37 : Int) (m14_0 : Int) (m14_1 : Int) (x : Int) (t38 : Int) (h : i40aa_0 ra rb rc ps t5 t6 t9 t36 t37 m14_0 m14_1 x t38 = true) : r40aa ra rb rc ps t5 t6 t9 t36 t37 m14_0 m14_1 x t38 = some (.x0 (v40aa_0_t1 ra rb rc ps t5 t6 t9 t36 t37 m14_0 m14_1 x t38) (v40aa_0_t9' ra rb rc ps t5 t6 t9 t36 t37 m14_0 m14_1 x t38) (v40aa_0_t38 ra rb rc ps t5 t6 t9 t36 t37 m14_0 m14_1 x t38) (v40aa_0_m14_0' ra rb rc ps t5 t6 t9 t36 t37 m14_0 m14_1 x t38) (v40aa_0_m14_1' ra rb rc ps t5 t6 t9 t36 t37 m14_0 m14_1 x t38)) := by
  unfold i40aa_0 at h
  unfold v40aa_0_t1 v40aa_0_t9' v40aa_0_t38 v40aa_0_m14_0' v40aa_0_m14_1'
  generalize r40aa ra rb rc ps t5 t6 t9 t36 t37 m14_0 m14_1 x t38 = r at h ⊢
  rcases r with _ | y
  · cases h
  · cases y <;> first | rfl | cases h
theorem round40aa (x : Int) (ra : Int) (rb : Int) (rc : Int) (ps : List (List AV)) (t5 : Int) (t6 : List (List AV)) (t9 : List (List AV)) (t36 : List (List AV)) (t37 : Int) (t38 : Int) (m14_0 : Int) (m14_1 : Int) : round Try.prog SS10 (ro 40) L40 lp40aa [false, true, false, true, false, false, false, true, true, true, true, true, true] [(1, none), (2, none), (4, none), (5, none), (6, none), (8, none), (9, some 3), (36, none), (37, none), (38, none)] 15 (s40aa x ra rb rc ps t5 t6 t9 t36 t37 t38 m14_0 m14_1) =
    cond (decide (t38 < t37)) (cond (inb t38 t36.length) (cond (g71 m14_0 m14_1 (fS (t36.getD t38.toNat []) 0) (fI (t36.getD t38.toNat []) 1) (fI (t36.getD t38.toNat []) 2) (fI (t36.getD t38.toNat []) 3) (fI (t36.getD t38.toNat []) 4)) (cond (!w71_2 m14_0 m14_1 (fS (t36.getD t38.toNat []) 0) (fI (t36.getD t38.toNat []) 1) (fI (t36.getD t38.toNat []) 2) (fI (t36.getD t38.toNat []) 3) (fI (t36.getD t38.toNat []) 4)) (some (.nrm, s40aa x ra rb rc ps t5 t6 t9 t36 t37 (IntKind.i64.wrap (t38 + 1)) m14_0 m14_1)) (cond (g51 t6 (w71_0 m14_0 m14_1 (fS (t36.getD t38.toNat []) 0) (fI (t36.getD t38.toNat []) 1) (fI (t36.getD t38.toNat []) 2) (fI (t36.getD t38.toNat []) 3) (fI (t36.getD t38.toNat []) 4)) (w71_1 m14_0 m14_1 (fS (t36.getD t38.toNat []) 0) (fI (t36.getD t38.toNat []) 1) (fI (t36.getD t38.toNat []) 2) (fI (t36.getD t38.toNat []) 3) (fI (t36.getD t38.toNat []) 4))) (cond (decide (x ≥ w51_0 t6 (w71_0 m14_0 m14_1 (fS (t36.getD t38.toNat []) 0) (fI (t36.getD t38.toNat []) 1) (fI (t36.getD t38.toNat []) 2) (fI (t36.getD t38.toNat []) 3) (fI (t36.getD t38.toNat []) 4)) (w71_1 m14_0 m14_1 (fS (t36.getD t38.toNat []) 0) (fI (t36.getD t38.toNat []) 1) (fI (t36.getD t38.toNat []) 2) (fI (t36.getD t38.toNat []) 3) (fI (t36.getD t38.toNat []) 4)))) (some (.nrm, s40aa (IntKind.i64.wrap (x - w51_0 t6 (w71_0 m14_0 m14_1 (fS (t36.getD t38.toNat []) 0) (fI (t36.getD t38.toNat []) 1) (fI (t36.getD t38.toNat []) 2) (fI (t36.getD t38.toNat []) 3) (fI (t36.getD t38.toNat []) 4)) (w71_1 m14_0 m14_1 (fS (t36.getD t38.toNat []) 0) (fI (t36.getD t38.toNat []) 1) (fI (t36.getD t38.toNat []) 2) (fI (t36.getD t38.toNat []) 3) (fI (t36.getD t38.toNat []) 4)))) ra rb rc ps t5 t6 t9 t36 t37 (IntKind.i64.wrap (t38 + 1)) m14_0 m14_1)) (cond ((t9.length + [[AV.i IntKind.i64 t38]].length).ble 9223372036854775807 && true) (cond (((t9.length + [[AV.i IntKind.i64 t38]].length) * 8).ble 140737488355328) (some (.ext 2, o40aa_0 ra rb rc ps t5 t6 t9 t36 t37 m14_0 m14_1 x (t9 ++ [[AV.i IntKind.i64 t38]]) t38 (w71_0 m14_0 m14_1 (fS (t36.getD t38.toNat []) 0) (fI (t36.getD t38.toNat []) 1) (fI (t36.getD t38.toNat []) 2) (fI (t36.getD t38.toNat []) 3) (fI (t36.getD t38.toNat []) 4)) (w71_1 m14_0 m14_1 (fS (t36.getD t38.toNat []) 0) (fI (t36.getD t38.toNat []) 1) (fI (t36.getD t38.toNat []) 2) (fI (t36.getD t38.toNat []) 3) (fI (t36.getD t38.toNat []) 4)))) (none)) (none))) (none))) (none)) (none)) (some (.ext 2, o40aa_0 ra rb rc ps t5 t6 t9 t36 t37 m14_0 m14_1 x t9 t38 m14_0 m14_1)) := by kernel_rfl
theorem rnd40aa (ra : Int) (rb : Int) (rc : Int) (ps : List (List AV)) (t5 : Int) (t6 : List (List AV)) (t9 : List (List AV)) (t36 : List (List AV)) (t37 : Int) (m14_0 : Int) (m14_1 : Int) (x : S40aa) : round Try.prog SS10 (ro 40) L40 lp40aa [false, true, false, true, false, false, false, true, true, true, true, true, true] [(1, none), (2, none), (4, none), (5, none), (6, none), (8, none), (9, some 3), (36, none), (37, none), (38, none)] 15 ((fun x => s40aa x.x ra rb rc ps t5 t6 t9 t36 t37 x.t38 m14_0 m14_1) x) = toR (fun x => s40aa x.x ra rb rc ps t5 t6 t9 t36 t37 x.t38 m14_0 m14_1) (ou40aa ra rb rc ps t5 t6 t9 t36 t37 m14_0 m14_1) (stp40aa ra rb rc ps t5 t6 t9 t36 t37 m14_0 m14_1 x.x x.t38) := by
  refine (round40aa _ _ _ _ _ _ _ _ _ _ _ _ _ ).trans ?_
  unfold stp40aa
  simp only [toR_cond]
  rfl
theorem lok40aa {st : St} {outs : List (Bool × Ex × St)} {e : Ex} {s : St} (hl : l40aa st = some outs) (hch : Chosen outs e s) :
    ∃ keep nb, 0 ≤ nb ∧ LB Try.prog SS10 (ro 40) L40 lp40aa [false, true, false, true, false, false, false, true, true, true, true, true, true] keep nb st e s := by
  unfold l40aa at hl
  split at hl
  · rename_i x ra rb rc ps t5 t6 t9 t36 t37 t38 m14_0 m14_1 hno
    cases hl
    have hno := normW_norm hno
    refine ⟨_, _, ?_, .enter hno ?_⟩
    · decide
    have main := fun y h => LB_run (x := (⟨x, t38⟩ : S40aa)) (y := y) (nb := 15) (fun y => by cases y <;> simp [ou40aa]) (rnd40aa ra rb rc ps t5 t6 t9 t36 t37 m14_0 m14_1) h
    obtain ⟨x, hx, hg, rfl, rfl⟩ := chosen_any hch
    simp only [List.mem_cons, List.not_mem_nil, or_false] at hx
    subst hx
    exact main _ (is40aa_0 ra rb rc ps t5 t6 t9 t36 t37 m14_0 m14_1 x t38 hg)
  · cases hl
theorem is40a_0 (ra : Int) (rb : Int) (rc : Int) (ps : List (List AV)) (t5 : Int) (t6 : List (List AV)) (x : Int) (t9 : List (List AV)) (m14_0 : Int) (m14_1 : Int) (h : i40a_0 ra rb rc ps t5 t6 x t9 m14_0 m14_1 = true) : r40a ra rb rc ps t5 t6 x t9 m14_0 m14_1 = some (.x0 (v40a_0_t1 ra rb rc ps t5 t6 x t9 m14_0 m14_1) (v40a_0_t9 ra rb rc ps t5 t6 x t9 m14_0 m14_1) (v40a_0_m14_0 ra rb rc ps t5 t6 x t9 m14_0 m14_1) (v40a_0_m14_1 ra rb rc ps t5 t6 x t9 m14_0 m14_1)) := by
  unfold i40a_0 at h
  unfold v40a_0_t1 v40a_0_t9 v40a_0_m14_0 v40a_0_m14_1
  generalize r40a ra rb rc ps t5 t6 x t9 m14_0 m14_1 = r at h ⊢
  rcases r with _ | y
  · cases h
  · cases y <;> first | rfl | cases h
theorem round40a (x : Int) (ra : Int) (rb : Int) (rc : Int) (ps : List (List AV)) (t5 : Int) (t6 : List (List AV)) (t9 : List (List AV)) (m14_0 : Int) (m14_1 : Int) : round Try.prog SS10 (ro 40) L40 lp40a [false, false, true, true, true, true, true, true] [(1, none), (2, none), (4, none), (5, none), (6, none), (8, none), (9, some 3)] 15 (s40a x ra rb rc ps t5 t6 t9 m14_0 m14_1) =
    cond (decide (m14_0 > 0)) (cond (i40aa_0 ra rb rc ps t5 t6 t9 ps (↑ps.length : Int) m14_0 m14_1 x 0) (some (.nrm, s40a (v40aa_0_t1 ra rb rc ps t5 t6 t9 ps (↑ps.length : Int) m14_0 m14_1 x 0) ra rb rc ps t5 t6 (v40aa_0_t9' ra rb rc ps t5 t6 t9 ps (↑ps.length : Int) m14_0 m14_1 x 0) (v40aa_0_m14_0' ra rb rc ps t5 t6 t9 ps (↑ps.length : Int) m14_0 m14_1 x 0) (v40aa_0_m14_1' ra rb rc ps t5 t6 t9 ps (↑ps.length : Int) m14_0 m14_1 x 0))) (none)) (some (.ext 0, o40a_0 ra rb rc ps t5 t6 x t9 m14_0 m14_1)) := by kernel_rfl
theorem rnd40a (ra : Int) (rb : Int) (rc : Int) (ps : List (List AV)) (t5 : Int) (t6 : List (List AV)) (x : S40a) : round Try.prog SS10 (ro 40) L40 lp40a [false, false, true, true, true, true, true, true] [(1, none), (2, none), (4, none), (5, none), (6, none), (8, none), (9, some 3)] 15 ((fun x => s40a x.x ra rb rc ps t5 t6 x.t9 x.m14_0 x.m14_1) x) = toR (fun x => s40a x.x ra rb rc ps t5 t6 x.t9 x.m14_0 x.m14_1) (ou40a ra rb rc ps t5 t6) (stp40a ra rb rc ps t5 t6 x.x x.t9 x.m14_0 x.m14_1) := by
  refine (round40a _ _ _ _ _ _ _ _ _ _ ).trans ?_
  unfold stp40a
  simp only [toR_cond]
  rfl
theorem lok40a {st : St} {outs : List (Bool × Ex × St)} {e : Ex} {s : St} (hl : l40a st = some outs) (hch : Chosen outs e s) :
    ∃ keep nb, 0 ≤ nb ∧ LB Try.prog SS10 (ro 40) L40 lp40a [false, false, true, true, true, true, true, true] keep nb st e s := by
  unfold l40a at hl
  split at hl
  · rename_i x ra rb rc ps t5 t6 t9 m14_0 m14_1 hno
    cases hl
    have hno := normW_norm hno
    refine ⟨_, _, ?_, .enter hno ?_⟩
    · decide
    have main := fun y h => LB_run (x := (⟨x, t9, m14_0, m14_1⟩ : S40a)) (y := y) (nb := 15) (fun y => by cases y <;> simp [ou40a]) (rnd40a ra rb rc ps t5 t6) h
    obtain ⟨x, hx, hg, rfl, rfl⟩ := chosen_any hch
    simp only [List.mem_cons, List.not_mem_nil, or_false] at hx
    subst hx
    exact main _ (is40a_0 ra rb rc ps t5 t6 x t9 m14_0 m14_1 hg)
  · cases hl
theorem L40_ok (q : Pl) (c : Code) (hq : locate c40 q.reverse = some (.loop c)) (st : St) (outs : List (Bool × Ex × St)) (e : Ex) (s : St) (hl : L40 q st = some outs) (hch : Chosen outs e s) :
    ∃ keep nb, 0 ≤ nb ∧ LB Try.prog SS10 (ro 40) L40 c q keep nb st e s := by
  unfold L40 at hl
  split at hl
  · have : locate c40 ([false, true, false, true, false, false, false, true, true, true, true, true, true] : Pl).reverse = some (.loop lp40aa) := by kernel_rfl
    rw [this] at hq
    cases hq
    exact lok40aa hl hch
  · have : locate c40 ([false, false, true, true, true, true, true, true] : Pl).reverse = some (.loop lp40a) := by kernel_rfl
    rw [this] at hq
    cases hq
    exact lok40a hl hch
  · cases hl
theorem lok40 : LOK Try.prog SS10 (ro 40) L40 0 false c40 [] :=
  lok_lo L40_ok c40 [] false (locate_nil _) (by kernel_rfl)
noncomputable def t40 (ra rb rc : Int) (ps : List (List AV)) (x : Int) : Tr ((List (List AV)) × (Int)) :=
  .cn (g50 ra rb rc ps) (.cn (w50_1 ra rb rc ps != 0) (.lf ([], w50_1 ra rb rc ps)) (.cn (g51 (w50_0 ra rb rc ps) (w52_0 ra rb rc ps) (w52_1 ra rb rc ps)) (.cn (g55 x 0 (IntKind.i64.wrap (w51_0 (w50_0 ra rb rc ps) (w52_0 ra rb rc ps) (w52_1 ra rb rc ps) - 1))) (.cn (!w55_0 x 0 (IntKind.i64.wrap (w51_0 (w50_0 ra rb rc ps) (w52_0 ra rb rc ps) (w52_1 ra rb rc ps) - 1))) (.lf ([], 1)) (.cn (i40a_0 ra rb rc ps 0 (w50_0 ra rb rc ps) x [] (w52_0 ra rb rc ps) (w52_1 ra rb rc ps)) (.lf (v40a_0_t9 ra rb rc ps 0 (w50_0 ra rb rc ps) x [] (w52_0 ra rb rc ps) (w52_1 ra rb rc ps), 0)) (.nn))) (.nn)) (.nn))) (.nn)
noncomputable def g40 (ra rb rc : Int) (ps : List (List AV)) (x : Int) : Bool := (t40 ra rb rc ps x).g
noncomputable def w40_0 (ra rb rc : Int) (ps : List (List AV)) (x : Int) : List (List AV) := (t40 ra rb rc ps x).val.1
noncomputable def w40_1 (ra rb rc : Int) (ps : List (List AV)) (x : Int) : Int := (t40 ra rb rc ps x).val.2
noncomputable def a40 (ra rb rc : Int) (ps : List (List AV)) (x : Int) : Tr AV :=
  .cn (g50 ra rb rc ps) (.cn (w50_1 ra rb rc ps != 0) (.lf (.tup [.nl, .i .i64 (w50_1 ra rb rc ps)])) (.cn (g51 (w50_0 ra rb rc ps) (w52_0 ra rb rc ps) (w52_1 ra rb rc ps)) (.cn (g55 x 0 (IntKind.i64.wrap (w51_0 (w50_0 ra rb rc ps) (w52_0 ra rb rc ps) (w52_1 ra rb rc ps) - 1))) (.cn (!w55_0 x 0 (IntKind.i64.wrap (w51_0 (w50_0 ra rb rc ps) (w52_0 ra rb rc ps) (w52_1 ra rb rc ps) - 1))) (.lf (.tup [.nl, .i .i64 1])) (.cn (i40a_0 ra rb rc ps 0 (w50_0 ra rb rc ps) x [] (w52_0 ra rb rc ps) (w52_1 ra rb rc ps)) (.lf (.tup [.rs 3 (v40a_0_t9 ra rb rc ps 0 (w50_0 ra rb rc ps) x [] (w52_0 ra rb rc ps) (w52_1 ra rb rc ps)), .i .i64 0])) (.nn))) (.nn)) (.nn))) (.nn)
theorem eq40 (ra rb rc : Int) (ps : List (List AV)) (x : Int) : evF Try.prog SS10 (ro 40) L40 Try.f40 [.agg [.i .i64 ra, .i .i64 rb, .i .i64 rc, .rs 31 ps], .i .i64 x] = (a40 ra rb rc ps x).opt id := by kernel_rfl
theorem wk40 (ra rb rc : Int) (ps : List (List AV)) (x : Int) : (a40 ra rb rc ps x).map (wkV [some 3, none]) = (t40 ra rb rc ps x).map (fun (x : (List (List AV)) × (Int)) => (.tup [.rs 3 x.1, .i .i64 x.2] : AV)) := by kernel_rfl
theorem con40 (ra rb rc : Int) (ps : List (List AV)) (x : Int) (h : g40 ra rb rc ps x = true) : Con Try.prog 40 [.agg [.i .i64 ra, .i .i64 rb, .i .i64 rc, .rs 31 ps], .i .i64 x] [] (.tup [.rs 3 (w40_0 ra rb rc ps x), .i .i64 (w40_1 ra rb rc ps x)]) [] := by
  obtain ⟨v, h1, h2⟩ := Tr.soundW (eq40 ra rb rc ps x) (wk40 ra rb rc ps x) h
  have := (con_of SS10_ok mixed Try.func40 (c := c40) rfl (names 40 _ Try.func40) lok40 h1).wk [some 3, none]
  rw [h2] at this
  exact this
noncomputable def e40 (args : List AV) (rows : List Blk) : Option (Bool × AV × List Blk) := match args, rows with
  | [.agg [.i .i64 ra, .i .i64 rb, .i .i64 rc, .rs 31 ps], .i .i64 x], [] => some (g40 ra rb rc ps x, .tup [.rs 3 (w40_0 ra rb rc ps x), .i .i64 (w40_1 ra rb rc ps x)], [])
  | _, _ => none
theorem e40_ok (args : List AV) (rows : List Blk) (pre : Bool) (v : AV) (rows' : List Blk) (h : e40 args rows = some (pre, v, rows')) (hp : pre = true) : Con Try.prog 40 args rows v rows' := by
  unfold e40 at h
  split at h
  · cases h; exact con40 _ _ _ _ _ hp
  · cases h
-- SPEC 40
end Go.Proofs.Ytgifjphinkbcaaa

set_option maxRecDepth 100000
set_option linter.unusedVariables false
namespace Go.Proofs.Ytgifjphinkbcaaa
open Go Go.Ev
def cap : Int := 1000000000000001
def okT (T : Nat → Nat → Int) : Prop := ∀ n h, 0 ≤ T n h ∧ T n h ≤ cap
def lvl1 (i L A B : Nat) (T : Nat → Nat → Int) : Nat → Nat → Int := if L ≤ i then upd2 T i A (bmin (T i A + T (i - L) B) cap) else T
theorem lvl1_ok {i L A B : Nat} {T : Nat → Nat → Int} (h : okT T) : okT (lvl1 i L A B T) := by
  intro n k
  unfold lvl1
  split
  · unfold upd2
    split
    · unfold upd
      split
      · have := h i A
        have := h (i - L) B
        rw [bmin_le]
        unfold cap at *
        split <;> omega
      · exact h i k
    · exact h n k
  · exact h n k
theorem g71_true (q0 q1 : Int) (nm : ByteArray) (pa pb pc pd : Int) : g71 q0 q1 nm pa pb pc pd = true := by
  unfold g71 t71
  cases pb == q1 <;> rfl
theorem w71_same (q0 : Int) (nm : ByteArray) (pa pb pc pd : Int) : w71_0 q0 pb nm pa pb pc pd = IntKind.i64.wrap (q0 - pa) ∧ w71_1 q0 pb nm pa pb pc pd = pc ∧ w71_2 q0 pb nm pa pb pc pd = decide (pa ≤ q0) := by
  unfold w71_0 w71_1 w71_2 t71
  simp [Tr.val]
theorem cts91 {A : Nat} (h : A < 10) : ctsAt (cts Try.prog 91) (0 + ((A : Nat) : Int).toNat * 1) (cts Try.prog 3) = true := by
  rcases A with _ | _ | _ | _ | _ | _ | _ | _ | _ | _ | A
  all_goals first | (exfalso; omega) | kernel_rfl
theorem stp_go {ra rb rc : Int} {ps : List (List AV)} {N i k L A B : Nat} {T : Nat → Nat → Int} {p : List AV} (hp : ps.getD k [] = p) (hk : k < ps.length) (hlen : ps.length ≤ 10) (h1 : fI p 1 = (L : Int)) (h2 : fI p 2 = (A : Int)) (h3 : fI p 3 = (B : Int))
    (hA : A < 10) (hB : B < 10) (hL : 1 ≤ L) (hL2 : L ≤ 2000) (hi : i < N) (hN : N ≤ 2001) (hT : okT T) :
    stp81aa ra rb rc ps N (i : Int) ps (ps.length : Int) (k : Int) (tab N T) = .go ⟨((k + 1 : Nat) : Int), tab N (lvl1 i L A B T)⟩ := by
  unfold stp81aa
  have e1 : decide ((k : Int) < (ps.length : Int)) = true := decide_eq_true (by omega)
  have e2 : inb (k : Int) ps.length = true := by simp [inb_nat, hk]
  obtain ⟨w0, w1, w2⟩ := w71_same (i : Int) (fS p 0) (L : Int) (A : Int) (B : Int) (fI p 4)
  have ew : IntKind.i64.wrap ((k : Int) + 1) = ((k + 1 : Nat) : Int) := (wrap64 (by omega) (by omega)).trans (by omega)
  have ei : inb (i : Int) N = true := by simp [inb_nat, hi]
  have eA : inb (A : Int) 10 = true := by simp [inb_nat, hA]
  have eB : inb (B : Int) 10 = true := by simp [inb_nat, hB]
  have cA := cts91 hA
  have cB := cts91 hB
  simp only [e1, e2, cond_true, Int.toNat_natCast, hp, h1, h2, h3, g71_true, w0, w1, w2, ew, ei, eA, eB, tab_len, Nat.zero_add, Nat.mul_one] at cA cB ⊢
  rw [cA, cB]
  have bi : Nat.blt i N = true := by simpa [Nat.blt_eq] using hi
  simp only [bi, Bool.and_true, cond_true]
  by_cases hLi : L ≤ i
  · have d1 : decide ((L : Int) ≤ (i : Int)) = true := decide_eq_true (by omega)
    have ww : IntKind.i64.wrap ((i : Int) - (L : Int)) = ((i - L : Nat) : Int) := (wrap64 (by omega) (by omega)).trans (by omega)
    have hj : i - L < N := by omega
    have ej : inb ((i - L : Nat) : Int) N = true := by simp [inb_nat, hj]
    have bj : Nat.blt (i - L) N = true := by simpa [Nat.blt_eq] using hj
    have q1 := hT i A
    have q2 := hT (i - L) B
    simp only [d1, cond_true, ww, ej, Int.toNat_natCast, bj, Bool.and_true, tab_get hi, tab_get hj, tabR_get hA, tabR_get hB]
    rw [wrap64 (by unfold cap at *; omega) (by unfold cap at *; omega)]
    have := tab_set (N := N) (T := T) (v := bmin (T i A + T (i - L) B) 1000000000000001) hi hA
    rw [tab_get hi] at this
    rw [this]
    unfold lvl1
    rw [if_pos hLi]
    rfl
  · have d1 : decide ((L : Int) ≤ (i : Int)) = false := decide_eq_false (by omega)
    simp only [d1, cond_false]
    unfold lvl1
    rw [if_neg hLi]
def okPc (p : List AV) : Prop := 1 ≤ fI p 1 ∧ fI p 1 ≤ 2000 ∧ 0 ≤ fI p 2 ∧ fI p 2 < 10 ∧ 0 ≤ fI p 3 ∧ fI p 3 < 10
def okPs (ps : List (List AV)) : Prop := ps.length ≤ 10 ∧ ∀ p, p ∈ ps → okPc p
def pL (p : List AV) : Nat := (fI p 1).toNat
def pA (p : List AV) : Nat := (fI p 2).toNat
def pB (p : List AV) : Nat := (fI p 3).toNat
def lvlP (i : Nat) (T : Nat → Nat → Int) (p : List AV) : Nat → Nat → Int := lvl1 i (pL p) (pA p) (pB p) T
def lvl (ps : List (List AV)) (i : Nat) (T : Nat → Nat → Int) : Nat → Nat → Int := ps.foldl (lvlP i) T
theorem lvl_ok (ps : List (List AV)) {i : Nat} : ∀ {T : Nat → Nat → Int}, okT T → okT (lvl ps i T) := by
  induction ps with
  | nil => exact fun h => h
  | cons p ps ih => exact fun h => ih (lvl1_ok h)
theorem take_foldl {ps : List (List AV)} {i k : Nat} {T : Nat → Nat → Int} (hk : k < ps.length) : lvl (ps.take (k + 1)) i T = lvlP i (lvl (ps.take k) i T) (ps.getD k []) := by
  unfold lvl
  have : ps.take (k + 1) = ps.take k ++ [ps.getD k []] := by
    rw [List.take_add_one, List.getElem?_eq_getElem hk]
    simp [List.getD_eq_getElem?_getD, List.getElem?_eq_getElem hk]
  rw [this, List.foldl_append]
  rfl
theorem inner {ra rb rc : Int} {ps : List (List AV)} {N i : Nat} {T : Nat → Nat → Int} (hps : okPs ps) (hi : i < N) (hN : N ≤ 2001) (hT : okT T) :
    r81aa ra rb rc ps N (i : Int) ps (ps.length : Int) 0 (tab N T) = some (.x0 (ps.length : Int) (tab N (lvl ps i T))) := by
  unfold r81aa
  have := run_from0 (step := fun x : S81aa => stp81aa ra rb rc ps N (i : Int) ps (ps.length : Int) x.t27 x.m5) (y := .x0 (ps.length : Int) (tab N (lvl ps i T))) (m := ps.length)
    (fun k => ⟨(k : Int), tab N (lvl (ps.take k) i T)⟩) (fun k hk => ?_) ?_
  · simpa [lvl] using this
  · have hm : ps.getD k [] ∈ ps := by
      simp only [List.getD_eq_getElem?_getD, List.getElem?_eq_getElem hk, Option.getD_some]
      exact List.getElem_mem hk
    obtain ⟨b1, b2, b3, b4, b5, b6⟩ := hps.2 _ hm
    have := stp_go (ra := ra) (rb := rb) (rc := rc) (ps := ps) (N := N) (i := i) (k := k) (L := pL (ps.getD k [])) (A := pA (ps.getD k [])) (B := pB (ps.getD k [])) (T := lvl (ps.take k) i T) rfl hk hps.1
      (by unfold pL; omega) (by unfold pA; omega) (by unfold pB; omega) (by unfold pA; omega) (by unfold pB; omega) (by unfold pL; omega) (by unfold pL; omega) hi hN (lvl_ok _ hT)
    rw [take_foldl hk]
    exact this
  · show stp81aa ra rb rc ps N (i : Int) ps (ps.length : Int) (ps.length : Int) _ = _
    rw [List.take_length]
    unfold stp81aa
    have : decide ((ps.length : Int) < (ps.length : Int)) = false := decide_eq_false (by omega)
    rw [this]
    rfl
/-- Level by level. -/
def T0 (c : Nat) : Nat → Nat → Int := upd2 (fun _ _ => 0) 0 c 1
def tabs (ps : List (List AV)) (c : Nat) : Nat → Nat → Nat → Int
  | 0 => T0 c
  | i + 1 => lvl ps (i + 1) (tabs ps c i)
theorem T0_ok (c : Nat) : okT (T0 c) := by
  intro n h
  show 0 ≤ (if n = 0 then upd (fun _ => 0) c 1 else fun _ => 0) h ∧ (if n = 0 then upd (fun _ => 0) c 1 else fun _ => 0) h ≤ cap
  unfold cap
  split
  · show 0 ≤ (if h = c then (1 : Int) else 0) ∧ (if h = c then (1 : Int) else 0) ≤ _
    split <;> omega
  · show (0 : Int) ≤ 0 ∧ (0 : Int) ≤ _
    omega
theorem tabs_ok (ps : List (List AV)) (c : Nat) : ∀ i, okT (tabs ps c i)
  | 0 => T0_ok c
  | i + 1 => lvl_ok ps (tabs_ok ps c i)
theorem outer {rb rc : Int} {ps : List (List AV)} {n c : Nat} (hps : okPs ps) (hn : n ≤ 2000) :
    r81a (n : Int) rb rc ps (n + 1) 1 (tab (n + 1) (tabs ps c 0)) = some (.x0 ((n + 1 : Nat) : Int) (tab (n + 1) (tabs ps c n))) := by
  unfold r81a
  have := run_from0 (step := fun x : S81a => stp81a (n : Int) rb rc ps (n + 1) x.t4 x.m5) (y := .x0 ((n + 1 : Nat) : Int) (tab (n + 1) (tabs ps c n))) (m := n)
    (fun k => ⟨((k + 1 : Nat) : Int), tab (n + 1) (tabs ps c k)⟩) (fun k hk => ?_) ?_
  · exact this
  · show stp81a (n : Int) rb rc ps (n + 1) ((k + 1 : Nat) : Int) (tab (n + 1) (tabs ps c k)) = _
    unfold stp81a
    have e1 : decide (((k + 1 : Nat) : Int) ≤ (n : Int)) = true := decide_eq_true (by omega)
    have hin := inner (ra := (n : Int)) (rb := rb) (rc := rc) (ps := ps) (N := n + 1) (i := k + 1) (T := tabs ps c k) hps (by omega) (by omega) (tabs_ok ps c k)
    have ew : IntKind.i64.wrap (((k + 1 : Nat) : Int) + 1) = ((k + 1 + 1 : Nat) : Int) := (wrap64 (by omega) (by omega)).trans (by omega)
    rw [e1, cond_true, ew]
    unfold i81aa_0 v81aa_0_m5
    rw [hin]
    rfl
  · show stp81a (n : Int) rb rc ps (n + 1) ((n + 1 : Nat) : Int) (tab (n + 1) (tabs ps c n)) = _
    unfold stp81a
    have e1 : decide (((n + 1 : Nat) : Int) ≤ (n : Int)) = false := decide_eq_false (by omega)
    rw [e1]
    rfl
theorem count_val {rb : Int} {ps : List (List AV)} {n c : Nat} (hps : okPs ps) (hn : n ≤ 2000) (hc : c < 10) : g81 (n : Int) rb (c : Int) ps = true ∧ w81_0 (n : Int) rb (c : Int) ps = tab (n + 1) (tabs ps c n) := by
  have ew : IntKind.i64.wrap ((n : Int) + 1) = ((n + 1 : Nat) : Int) := (wrap64 (by omega) (by omega)).trans (by omega)
  have ez : (tab (n + 1) (fun _ _ => 0)).set 0 (setCs ((tab (n + 1) (fun _ _ => 0)).getD 0 []) c [.i .i64 1]) = tab (n + 1) (tabs ps c 0) := tab_set (by omega) hc
  have ho := outer (rb := rb) (rc := (c : Int)) (c := c) hps hn
  have cc := cts91 hc
  simp only [Int.toNat_natCast, Nat.zero_add, Nat.mul_one] at cc
  have ic : inb (c : Int) 10 = true := by simp [inb_nat, hc]
  have i0 : inb 0 (n + 1) = true := by simp [inb]
  have d1 : decide ((0 : Int) ≤ ((n + 1 : Nat) : Int)) = true := decide_eq_true (by omega)
  have d2 : decide (((n + 1 : Nat) : Int) * ((80 : Nat) : Int) ≤ 140737488355328) = true := decide_eq_true (by omega)
  have d3 : decide (((n + 1 : Nat) : Int) ≤ 9223372036854775807) = true := decide_eq_true (by omega)
  have iv : i81a_0 (n : Int) rb (c : Int) ps (n + 1) 1 (tab (n + 1) (tabs ps c 0)) = true := by
    unfold i81a_0
    rw [ho]
  have vv : v81a_0_m5 (n : Int) rb (c : Int) ps (n + 1) 1 (tab (n + 1) (tabs ps c 0)) = tab (n + 1) (tabs ps c n) := by
    unfold v81a_0_m5
    rw [ho]
  have b1 : Nat.ble (n + 1) (n + 1) = true := by simp
  have b2 : Nat.beq (n + 1) (n + 1) = true := by simp
  have b3 : Nat.blt 0 (n + 1) = true := by simp [Nat.blt_eq]
  have d2' : decide (((n + 1 : Nat) : Int) * 80 ≤ 140737488355328) = true := decide_eq_true (by omega)
  unfold g81 w81_0 t81
  simp only [ew, Int.toNat_natCast, tab_zero, Nat.zero_add, Nat.mul_one, ez, tab_len, cc, ic, i0, d1, d2', d3, iv, vv, b1, b2, b3, Bool.and_true, Tr.g, Tr.val, cond_true, decide_true, and_self]
/-- Rounds that come to an end. -/
theorem run_total {σ τ : Type} {step : σ → Lp σ τ} (μ : σ → Nat) (Inv : σ → Prop) (h : ∀ x, Inv x → (∃ y, step x = .go y ∧ Inv y ∧ μ y < μ x) ∨ ∃ y, step x = .out y) : ∀ x, Inv x → ∃ y, run step x = some y := by
  have key : ∀ (n : Nat) x, μ x < n → Inv x → ∃ y, run step x = some y := by
    intro n
    induction n with
    | zero => intro x hx; omega
    | succ n ih =>
      intro x hx hi
      rcases h x hi with ⟨y, h1, h2, h3⟩ | ⟨y, h1⟩
      · rw [run_go h1]
        exact ih y (by omega) h2
      · exact ⟨y, run_out h1⟩
  exact fun x hi => key (μ x + 1) x (by omega) hi
theorem g85_true (c : Int) : g85 c = true := by
  unfold g85 t85
  cases decide (c ≥ 97) <;> cases decide (c ≤ 122) <;> cases decide (c ≥ 48) <;> cases decide (c ≤ 57) <;> rfl
theorem run94 (nm : ByteArray) (tr : Bool) : ∃ y, r94a tr 0 nm 0 = some y := by
  unfold r94a
  refine run_total (fun x => nm.size - x.m2_1) (fun _ => True) (fun x _ => ?_) _ trivial
  unfold stp94a
  simp only [g85_true, cond_true]
  cases hb : x.m2_1.blt nm.size with
  | false => exact .inr ⟨_, rfl⟩
  | true =>
    have hb : x.m2_1 < nm.size := by simpa [Nat.blt_eq] using hb
    simp only [cond_true]
    cases w85_0 ↑(Utf8.decode nm x.m2_1).fst == tr with
    | true => exact .inr ⟨_, rfl⟩
    | false =>
      have := (decode_bounds nm x.m2_1).2
      exact .inl ⟨_, rfl, trivial, by show nm.size - (x.m2_1 + _) < nm.size - x.m2_1; omega⟩
theorem g94_true (nm : ByteArray) (tr : Bool) : g94 nm tr = true := by
  obtain ⟨y, hy⟩ := run94 nm tr
  unfold g94 t94 i94a_0 i94a_1
  rw [hy]
  cases y <;> rfl
theorem g84_true (nm : ByteArray) : g84 nm = true := by
  have : g91 nm = true := by
    unfold g91 t91
    rw [g94_true]; rfl
  unfold g84 t84
  rw [this]; rfl
theorem g61_true (nm : ByteArray) : g61 nm = true := by
  unfold g61 t61
  rw [g84_true]
  cases h1 : (nm.toList == (⟨#[]⟩ : ByteArray).toList) with
  | true => rfl
  | false =>
    have hs : 0 < nm.size := by
      rcases Nat.eq_zero_or_pos nm.size with e | e
      · exfalso
        have hnil : nm.toList = (⟨#[]⟩ : ByteArray).toList := by
          have : nm.data = #[] := Array.eq_empty_of_size_eq_zero e
          cases nm
          simp at this
          subst this
          rfl
        rw [hnil] at h1
        simp at h1
      · exact e
    have hi : inb 0 nm.size = true := by simp [inb, hs]
    rw [hi]
    cases decide ((nm.size : Int) > 16) <;> cases decide (((nm.data.toList.getD 0 0).toNat : Int) < 97) <;> cases decide (((nm.data.toList.getD 0 0).toNat : Int) > 122) <;> rfl
theorem stepA {ra rb rc : Int} {ps : List (List AV)} {k : Nat} {m : List (AV × AV)} (hk : k < ps.length) (hl : ps.length ≤ 10) :
    (∃ a b c, a ≠ 0 ∧ stp29a ra rb rc ps 0 ps (ps.length : Int) (k : Int) m = .out (.x0 a b c)) ∨ (okPc (ps.getD k []) ∧ ∃ m', stp29a ra rb rc ps 0 ps (ps.length : Int) (k : Int) m = .go ⟨((k + 1 : Nat) : Int), m'⟩) := by
  unfold stp29a
  have e1 : decide ((k : Int) < (ps.length : Int)) = true := decide_eq_true (by omega)
  have e2 : inb (k : Int) ps.length = true := by simp [inb_nat, hk]
  have ew : IntKind.i64.wrap ((k : Int) + 1) = ((k + 1 : Nat) : Int) := (wrap64 (by omega) (by omega)).trans (by omega)
  simp only [e1, e2, cond_true, g61_true, g55_true, Int.toNat_natCast, ew, w55_eq]
  generalize ps.getD k [] = p
  cases w61_0 (fS p 0) with
  | false => exact .inl ⟨_, _, _, by decide, rfl⟩
  | true =>
    simp only [Bool.not_true, cond_false]
    cases toB ((mget (AV.s (fS p 0)) m).getD (AV.b false)) with
    | true => exact .inl ⟨_, _, _, by decide, rfl⟩
    | false =>
      simp only [cond_false]
      cases h1 : (decide (1 ≤ fI p 1) && decide (fI p 1 ≤ 2000)) with
      | false => exact .inl ⟨_, _, _, by decide, rfl⟩
      | true =>
        simp only [Bool.not_true, cond_false]
        cases h2 : (decide (0 ≤ fI p 2) && decide (fI p 2 ≤ 9)) with
        | false => exact .inl ⟨_, _, _, by decide, rfl⟩
        | true =>
          simp only [Bool.not_true, cond_false]
          cases h3 : (decide (0 ≤ fI p 3) && decide (fI p 3 ≤ 9)) with
          | false => exact .inl ⟨_, _, _, by decide, rfl⟩
          | true =>
            simp only [Bool.and_eq_true, decide_eq_true_eq] at h1 h2 h3
            exact .inr ⟨⟨h1.1, h1.2, h2.1, by omega, h3.1, by omega⟩, _, rfl⟩
theorem stepA_end {ra rb rc : Int} {ps : List (List AV)} {m : List (AV × AV)} : stp29a ra rb rc ps 0 ps (ps.length : Int) (ps.length : Int) m = .out (.x1 (ps.length : Int) m) := by
  unfold stp29a
  have e1 : decide ((ps.length : Int) < (ps.length : Int)) = false := decide_eq_false (by omega)
  rw [e1]; rfl
theorem loopA (ra rb rc : Int) {ps : List (List AV)} (hl : ps.length ≤ 10) : ∃ y, r29a ra rb rc ps 0 ps (ps.length : Int) 0 [] = some y ∧ (∀ t m, y = .x1 t m → okPs ps) ∧ (∀ a t m, y = .x0 a t m → a ≠ 0) := by
  have key : ∀ (n k : Nat) (m : List (AV × AV)), ps.length - k = n → k ≤ ps.length → ∃ y, run (fun x : S29a => stp29a ra rb rc ps 0 ps (ps.length : Int) x.t35 x.m24) ⟨(k : Int), m⟩ = some y ∧ (∀ t m', y = .x1 t m' → ∀ j, k ≤ j → j < ps.length → okPc (ps.getD j [])) ∧ (∀ a t m, y = .x0 a t m → a ≠ 0) := by
    intro n
    induction n with
    | zero =>
      intro k m hn hk
      have : k = ps.length := by omega
      subst this
      exact ⟨_, run_out stepA_end, fun t m' _ j h1 h2 => (by omega), fun a t m e => by cases e⟩
    | succ n ih =>
      intro k m hn hk
      rcases stepA (ra := ra) (rb := rb) (rc := rc) (m := m) (show k < ps.length by omega) hl with ⟨a, b, c, ha, h⟩ | ⟨hp, m', h⟩
      · exact ⟨_, run_out h, fun t m' e => (by cases e), fun a t m e => by cases e; exact ha⟩
      · obtain ⟨y, h1, h2, h3⟩ := ih (k + 1) m' (by omega) (by omega)
        refine ⟨y, (run_go (step := fun x : S29a => stp29a ra rb rc ps 0 ps (ps.length : Int) x.t35 x.m24) h).trans h1, fun t m' e j hj hj' => ?_, h3⟩
        rcases Nat.eq_or_lt_of_le hj with e' | e'
        · rw [← e']; exact hp
        · exact h2 t m' e j e' hj'
  obtain ⟨y, h1, h2, h3⟩ := key ps.length 0 [] rfl (Nat.zero_le _)
  refine ⟨y, h1, fun t m e => ⟨hl, fun p hp => ?_⟩, h3⟩
  obtain ⟨j, hj, rfl⟩ := List.getElem_of_mem hp
  have := h2 t m e j (Nat.zero_le _) hj
  simpa [List.getD_eq_getElem?_getD, List.getElem?_eq_getElem hj] using this
theorem stepB {ra rb rc : Int} {ps : List (List AV)} {k : Nat} (hk : k < ps.length) (hl : ps.length ≤ 10) :
    (∃ a b, a ≠ 0 ∧ stp29b ra rb rc ps 0 ps (ps.length : Int) (k : Int) = .out (.x0 a b)) ∨ stp29b ra rb rc ps 0 ps (ps.length : Int) (k : Int) = .go ⟨((k + 1 : Nat) : Int)⟩ := by
  unfold stp29b
  have e1 : decide ((k : Int) < (ps.length : Int)) = true := decide_eq_true (by omega)
  have e2 : inb (k : Int) ps.length = true := by simp [inb_nat, hk]
  have ew : IntKind.i64.wrap ((k : Int) + 1) = ((k + 1 : Nat) : Int) := (wrap64 (by omega) (by omega)).trans (by omega)
  have ew2 : IntKind.i64.wrap ((ps.length : Int) - 1) = (ps.length : Int) - 1 := wrap64 (by omega) (by omega)
  simp only [e1, e2, cond_true, g55_true, Int.toNat_natCast, ew, ew2, w55_eq]
  cases h1 : (decide (0 ≤ fI (ps.getD k []) 4) && decide (fI (ps.getD k []) 4 ≤ (ps.length : Int) - 1)) with
  | false => exact .inl ⟨_, _, by decide, rfl⟩
  | true =>
    simp only [Bool.and_eq_true, decide_eq_true_eq] at h1
    have hi : inb (fI (ps.getD k []) 4) ps.length = true := by
      obtain ⟨q, hq⟩ : ∃ q : Nat, fI (ps.getD k []) 4 = (q : Int) := ⟨(fI (ps.getD k []) 4).toNat, by omega⟩
      rw [hq, inb_nat]
      exact decide_eq_true (by omega)
    simp only [Bool.not_true, cond_false, hi, cond_true]
    have key : ∀ (c d : Bool), (∃ a b, a ≠ 0 ∧ (cond c (Lp.out (T29b.x0 10 (k : Int))) (cond d (Lp.out (T29b.x0 10 (k : Int))) (Lp.go (⟨((k + 1 : Nat) : Int)⟩ : S29b))) : Lp S29b T29b) = .out (.x0 a b)) ∨ (cond c (Lp.out (T29b.x0 10 (k : Int))) (cond d (Lp.out (T29b.x0 10 (k : Int))) (Lp.go (⟨((k + 1 : Nat) : Int)⟩ : S29b))) : Lp S29b T29b) = .go ⟨((k + 1 : Nat) : Int)⟩ := by
      intro c d
      cases c <;> cases d <;> first | exact .inl ⟨_, _, by decide, rfl⟩ | exact .inr rfl
    exact key _ _
theorem stepB_end {ra rb rc : Int} {ps : List (List AV)} : stp29b ra rb rc ps 0 ps (ps.length : Int) (ps.length : Int) = .out (.x1 (ps.length : Int)) := by
  unfold stp29b
  have e1 : decide ((ps.length : Int) < (ps.length : Int)) = false := decide_eq_false (by omega)
  rw [e1]; rfl
theorem loopB (ra rb rc : Int) {ps : List (List AV)} (hl : ps.length ≤ 10) : ∃ y, r29b ra rb rc ps 0 ps (ps.length : Int) 0 = some y ∧ (∀ a t, y = .x0 a t → a ≠ 0) := by
  have key : ∀ (n k : Nat), ps.length - k = n → k ≤ ps.length → ∃ y, run (fun x : S29b => stp29b ra rb rc ps 0 ps (ps.length : Int) x.t73) ⟨(k : Int)⟩ = some y ∧ (∀ a t, y = .x0 a t → a ≠ 0) := by
    intro n
    induction n with
    | zero =>
      intro k hn hk
      have : k = ps.length := by omega
      subst this
      exact ⟨_, run_out stepB_end, fun a t e => by cases e⟩
    | succ n ih =>
      intro k hn hk
      rcases stepB (ra := ra) (rb := rb) (rc := rc) (show k < ps.length by omega) hl with ⟨a, b, ha, h⟩ | h
      · exact ⟨_, run_out h, fun a t e => by cases e; exact ha⟩
      · obtain ⟨y, h1, h2⟩ := ih (k + 1) (by omega) (by omega)
        exact ⟨y, (run_go (step := fun x : S29b => stp29b ra rb rc ps 0 ps (ps.length : Int) x.t73) h).trans h1, h2⟩
  exact key ps.length 0 rfl (Nat.zero_le _)
/-- Check always answers. -/
theorem g29_true (ra rb rc : Int) (ps : List (List AV)) : g29 ra rb rc ps = true := by
  unfold g29 t29
  simp only [g55_true, w55_eq]
  cases decide (0 ≤ ra) && decide (ra ≤ 2000) with
  | false => rfl
  | true =>
  cases decide (0 ≤ rb) && decide (rb ≤ 9) with
  | false => rfl
  | true =>
  cases decide (0 ≤ rc) && decide (rc ≤ 9) with
  | false => rfl
  | true =>
  cases h : decide ((ps.length : Int) > 10) with
  | true => rfl
  | false =>
  have hl : ps.length ≤ 10 := by have := of_decide_eq_false h; omega
  obtain ⟨y, hy, _⟩ := loopA ra rb rc hl
  obtain ⟨z, hz, _⟩ := loopB ra rb rc hl
  unfold i29a_0 i29a_1 i29b_0 i29b_1
  rw [hy, hz]
  cases y <;> cases z <;> rfl
/-- What a Ridge is that passes Check. -/
structure Fine (ra rb rc : Int) (ps : List (List AV)) : Prop where
  a : 0 ≤ ra ∧ ra ≤ 2000
  b : 0 ≤ rb ∧ rb ≤ 9
  c : 0 ≤ rc ∧ rc ≤ 9
  ps : okPs ps
theorem check_err (ra rb rc : Int) (ps : List (List AV)) : w29_0 ra rb rc ps ≠ 0 ∨ (Fine ra rb rc ps ∧ ∀ ra' rb', 0 ≤ ra' → ra' ≤ 2000 → 0 ≤ rb' → rb' ≤ 9 → w29_0 ra' rb' rc ps = 0) := by
  cases ha : (decide (0 ≤ ra) && decide (ra ≤ 2000)) with
  | false =>
    left
    unfold w29_0 t29
    simp only [g55_true, w55_eq, ha, Tr.val, cond_true, Bool.not_false]
    decide
  | true =>
  cases hb : (decide (0 ≤ rb) && decide (rb ≤ 9)) with
  | false =>
    left
    unfold w29_0 t29
    simp only [g55_true, w55_eq, ha, hb, Tr.val, cond_true, cond_false, Bool.not_false, Bool.not_true]
    decide
  | true =>
  cases hc : (decide (0 ≤ rc) && decide (rc ≤ 9)) with
  | false =>
    left
    unfold w29_0 t29
    simp only [g55_true, w55_eq, ha, hb, hc, Tr.val, cond_true, cond_false, Bool.not_false, Bool.not_true]
    decide
  | true =>
  cases h : decide ((ps.length : Int) > 10) with
  | true =>
    left
    unfold w29_0 t29
    simp only [g55_true, w55_eq, ha, hb, hc, h, Tr.val, cond_true, cond_false, Bool.not_true]
    decide
  | false =>
  have hl : ps.length ≤ 10 := by have := of_decide_eq_false h; omega
  obtain ⟨y, hy, hy1, hy0⟩ := loopA ra rb rc hl
  obtain ⟨z, hz, hz0⟩ := loopB ra rb rc hl
  have val : ∀ ra' rb', (decide (0 ≤ ra') && decide (ra' ≤ 2000)) = true → (decide (0 ≤ rb') && decide (rb' ≤ 9)) = true → w29_0 ra' rb' rc ps = (match y with
      | .x0 a _ _ => a
      | .x1 _ _ => match z with
        | .x0 a _ => a
        | .x1 _ => 0) := by
    intro ra' rb' ha' hb'
    have hy' : r29a ra' rb' rc ps 0 ps (ps.length : Int) 0 [] = some y := hy
    have hz' : r29b ra' rb' rc ps 0 ps (ps.length : Int) 0 = some z := hz
    unfold w29_0 t29
    simp only [g55_true, w55_eq, ha', hb', hc, h, Tr.val, cond_true, cond_false, Bool.not_true]
    unfold i29a_0 i29a_1 i29b_0 i29b_1 v29a_0_t2' v29b_0_t2'
    rw [hy', hz']
    cases y <;> cases z <;> rfl
  have v0 := val ra rb ha hb
  simp only [Bool.and_eq_true, decide_eq_true_eq] at ha hb hc
  cases y with
  | x0 a t m => left; rw [v0]; exact hy0 a t m rfl
  | x1 t m =>
    cases z with
    | x0 a t' => left; rw [v0]; exact hz0 a t' rfl
    | x1 t' =>
      right
      exact ⟨⟨ha, hb, hc, hy1 t m rfl⟩, fun ra' rb' h1 h2 h3 h4 => val ra' rb' (by simp [h1, h2]) (by simp [h3, h4])⟩
theorem of_tab {N n b : Nat} {T : Nat → Nat → Int} (hn : n < N) (hb : b < 10) : g51 (tab N T) (n : Int) (b : Int) = true ∧ w51_0 (tab N T) (n : Int) (b : Int) = T n b := by
  have c := cts91 hb
  have i1 : inb (n : Int) N = true := by simp [inb_nat, hn]
  have i2 : inb (b : Int) 10 = true := by simp [inb_nat, hb]
  simp only [Int.toNat_natCast, Nat.zero_add, Nat.mul_one] at c
  unfold g51 w51_0 t51
  simp only [tab_len, i1, i2, Int.toNat_natCast, Nat.zero_add, Nat.mul_one, c, Tr.g, Tr.val, cond_true, tab_get hn, tabR_get hb, and_self]
theorem ways_err {ra rb rc : Int} {ps : List (List AV)} (h : w29_0 ra rb rc ps ≠ 0) : g20 ra rb rc ps = true ∧ w20_1 ra rb rc ps ≠ 0 := by
  have hb : (w29_0 ra rb rc ps != 0) = true := by simpa using h
  have h1 : g50 ra rb rc ps = true := by
    unfold g50 t50
    rw [g29_true, hb]; rfl
  have h2 : w50_1 ra rb rc ps = w29_0 ra rb rc ps := by
    unfold w50_1 t50
    rw [g29_true, hb]; rfl
  unfold g20 w20_1 t20
  rw [h1, h2, hb]
  exact ⟨rfl, h⟩
theorem ways_val {ps : List (List AV)} {n b c : Nat} (hps : okPs ps) (hn : n ≤ 2000) (hb : b < 10) (hc : c < 10) (hw : w29_0 (n : Int) (b : Int) (c : Int) ps = 0) :
    g20 (n : Int) (b : Int) (c : Int) ps = true ∧ ((tabs ps c n n b > 1000000000000000 ∧ w20_1 (n : Int) (b : Int) (c : Int) ps = 3 ∧ w20_0 (n : Int) (b : Int) (c : Int) ps = 0) ∨ (tabs ps c n n b ≤ 1000000000000000 ∧ w20_1 (n : Int) (b : Int) (c : Int) ps = 0 ∧ w20_0 (n : Int) (b : Int) (c : Int) ps = tabs ps c n n b)) := by
  obtain ⟨c1, c2⟩ := count_val (rb := (b : Int)) hps hn hc
  obtain ⟨o1, o2⟩ := of_tab (N := n + 1) (n := n) (b := b) (T := tabs ps c n) (by omega) hb
  have p0 : w52_0 (n : Int) (b : Int) (c : Int) ps = (n : Int) := rfl
  have p1 : w52_1 (n : Int) (b : Int) (c : Int) ps = (b : Int) := rfl
  have hz : (w29_0 (n : Int) (b : Int) (c : Int) ps != 0) = false := by simp [hw]
  cases hd : decide (tabs ps c n n b > 1000000000000000) with
  | true =>
    have h1 : g50 (n : Int) (b : Int) (c : Int) ps = true := by
      unfold g50 t50
      simp only [g29_true, hz, c1, c2, p0, p1, o1, o2, hd, Tr.g, cond_true, cond_false]
    have h2 : w50_1 (n : Int) (b : Int) (c : Int) ps = 3 := by
      unfold w50_1 t50
      simp only [g29_true, hz, c1, c2, p0, p1, o1, o2, hd, Tr.val, cond_true, cond_false]
    unfold g20 w20_1 w20_0 t20
    rw [h1, h2]
    exact ⟨rfl, .inl ⟨of_decide_eq_true hd, rfl, rfl⟩⟩
  | false =>
    have h1 : g50 (n : Int) (b : Int) (c : Int) ps = true := by
      unfold g50 t50
      simp only [g29_true, hz, c1, c2, p0, p1, o1, o2, hd, Tr.g, cond_true, cond_false]
    have h2 : w50_1 (n : Int) (b : Int) (c : Int) ps = 0 := by
      unfold w50_1 t50
      simp only [g29_true, hz, c1, c2, p0, p1, o1, o2, hd, Tr.val, cond_true, cond_false]
    have h3 : w50_0 (n : Int) (b : Int) (c : Int) ps = tab (n + 1) (tabs ps c n) := by
      unfold w50_0 t50
      simp only [g29_true, hz, c1, c2, p0, p1, o1, o2, hd, Tr.val, cond_true, cond_false]
    have hz2 : ((0 : Int) != 0) = false := by decide
    unfold g20 w20_1 w20_0 t20
    simp only [h1, h2, h3, hz2, p0, p1, o1, o2, Tr.g, Tr.val, cond_true, cond_false]
    exact ⟨trivial, .inr ⟨by have := of_decide_eq_false hd; omega, trivial, trivial⟩⟩
def acc (T : Nat → Nat → Int) (i h : Nat) (a : Int) (p : List AV) : Int := if pA p = h ∧ pL p ≤ i then bmin (a + T (i - pL p) (pB p)) cap else a
theorem lvlP_other {i n : Nat} {T : Nat → Nat → Int} {p : List AV} (h : n ≠ i) : lvlP i T p n = T n := by
  unfold lvlP lvl1
  split
  · unfold upd2
    rw [if_neg h]
  · rfl
theorem lvl_other (ps : List (List AV)) {i n : Nat} (h : n ≠ i) : ∀ {T : Nat → Nat → Int}, lvl ps i T n = T n := by
  induction ps with
  | nil => intro T; rfl
  | cons p ps ih =>
    intro T
    show lvl ps i (lvlP i T p) n = T n
    rw [ih, lvlP_other h]
theorem acc_congr {T T' : Nat → Nat → Int} {i h : Nat} {ps : List (List AV)} (hps : ∀ p, p ∈ ps → 1 ≤ pL p) (hT : ∀ n, n < i → T n = T' n) : ∀ a, ps.foldl (acc T i h) a = ps.foldl (acc T' i h) a := by
  induction ps with
  | nil => intro a; rfl
  | cons p ps ih =>
    intro a
    have hp := hps p (by simp)
    have e : acc T i h a p = acc T' i h a p := by
      unfold acc
      split
      · rename_i hc
        rw [hT (i - pL p) (by omega)]
      · rfl
    simp only [List.foldl_cons, e]
    exact ih (fun q hq => hps q (by simp [hq])) _
theorem lvl_row {i h : Nat} {ps : List (List AV)} (hps : ∀ p, p ∈ ps → 1 ≤ pL p) : ∀ {T : Nat → Nat → Int}, lvl ps i T i h = ps.foldl (acc T i h) (T i h) := by
  induction ps with
  | nil => intro T; rfl
  | cons p ps ih =>
    intro T
    have hp := hps p (by simp)
    have hps' : ∀ q, q ∈ ps → 1 ≤ pL q := fun q hq => hps q (by simp [hq])
    show lvl ps i (lvlP i T p) i h = ps.foldl (acc T i h) (acc T i h (T i h) p)
    rw [ih hps', acc_congr hps' (T' := T) (fun n hn => lvlP_other (by omega))]
    congr 1
    unfold lvlP lvl1 acc
    by_cases h1 : pL p ≤ i
    · rw [if_pos h1]
      unfold upd2
      rw [if_pos rfl]
      unfold upd
      by_cases h2 : pA p = h
      · rw [if_pos h2.symm, if_pos ⟨h2, h1⟩, h2]
      · rw [if_neg (fun e => h2 e.symm), if_neg (fun e => h2 e.1)]
    · rw [if_neg h1, if_neg (fun e => h1 e.2)]
theorem tabs_zero (ps : List (List AV)) (c : Nat) : ∀ (i n h : Nat), i < n → tabs ps c i n h = 0
  | 0, n, h, hn => by
    show T0 c n h = 0
    unfold T0 upd2
    rw [if_neg (by omega)]
  | i + 1, n, h, hn => by
    show lvl ps (i + 1) (tabs ps c i) n h = 0
    rw [lvl_other ps (by omega)]
    exact tabs_zero ps c i n h (by omega)
theorem tabs_stable (ps : List (List AV)) (c : Nat) {n : Nat} : ∀ {m : Nat}, n ≤ m → tabs ps c m n = tabs ps c n n
  | 0, h => by
    have : n = 0 := by omega
    subst this; rfl
  | m + 1, h => by
    rcases Nat.eq_or_lt_of_le h with e | e
    · rw [e]
    · show lvl ps (m + 1) (tabs ps c m) n = _
      rw [lvl_other ps (by omega)]
      exact tabs_stable ps c (by omega)
/-- How many ways there are, of a length and from a height. -/
def cnt (ps : List (List AV)) (c n h : Nat) : Int := tabs ps c n n h
theorem cnt_rec {ps : List (List AV)} {c n h : Nat} (hps : okPs ps) : cnt ps c (n + 1) h = ps.foldl (acc (fun k => cnt ps c k) (n + 1) h) 0 := by
  have hp : ∀ p, p ∈ ps → 1 ≤ pL p := fun p hm => by
    obtain ⟨h1, _⟩ := hps.2 p hm
    unfold pL; omega
  show lvl ps (n + 1) (tabs ps c n) (n + 1) h = _
  rw [lvl_row hp, tabs_zero ps c n (n + 1) h (by omega)]
  refine acc_congr hp (fun k hk => ?_) 0
  funext h'
  show tabs ps c n k h' = tabs ps c k k h'
  rw [tabs_stable ps c (by omega)]
theorem cnt_ok (ps : List (List AV)) (c n h : Nat) : 0 ≤ cnt ps c n h ∧ cnt ps c n h ≤ cap := tabs_ok ps c n n h
/-- Partial sums never go down; where the last one is small, none has been cut. -/
theorem acc_mono {T : Nat → Nat → Int} {i h : Nat} (hT : okT T) {a : Int} (ha : a ≤ cap) (p : List AV) : a ≤ acc T i h a p ∧ acc T i h a p ≤ cap := by
  unfold acc
  split
  · have := hT (i - pL p) (pB p)
    rw [bmin_le]
    split <;> omega
  · exact ⟨Int.le_refl _, ha⟩
theorem acc_fold {T : Nat → Nat → Int} {i h : Nat} (hT : okT T) : ∀ (ps : List (List AV)) {a : Int}, a ≤ cap → a ≤ ps.foldl (acc T i h) a ∧ ps.foldl (acc T i h) a ≤ cap
  | [], a, ha => ⟨Int.le_refl _, ha⟩
  | p :: ps, a, ha => by
    obtain ⟨h1, h2⟩ := acc_mono (i := i) (h := h) hT ha p
    obtain ⟨h3, h4⟩ := acc_fold (i := i) (h := h) hT ps h2
    exact ⟨Int.le_trans h1 h3, h4⟩
theorem g18_true (ra rb rc : Int) (ps : List (List AV)) : g18 ra rb rc ps = true := by
  have key : ∀ (n k : Nat) (t : Int), 31 - k = n → k ≤ 31 → ∃ y, run (fun x : S18a => stp18a ra rb rc ps false x.t3 x.t4) ⟨t, (k : Int)⟩ = some y := by
    intro n
    induction n with
    | zero =>
      intro k t hn hk
      have : k = 31 := by omega
      subst this
      have h2 : decide ((31 : Int) ≤ 30) = false := by decide
      cases hl : decide ((31 : Int) < (ps.length : Int)) with
      | true => exact ⟨_, run_out (by show stp18a ra rb rc ps false t 31 = _; unfold stp18a; rw [hl, h2]; rfl)⟩
      | false => exact ⟨_, run_out (by show stp18a ra rb rc ps false t 31 = _; unfold stp18a; rw [hl]; rfl)⟩
    | succ n ih =>
      intro k t hn hk
      cases hl : decide ((k : Int) < (ps.length : Int)) with
      | false => exact ⟨_, run_out (by show stp18a ra rb rc ps false t (k : Int) = _; unfold stp18a; rw [hl]; rfl)⟩
      | true =>
        have hk30 : decide ((k : Int) ≤ 30) = true := decide_eq_true (by omega)
        have hi : inb (k : Int) ps.length = true := by
          rw [inb_nat]
          have := of_decide_eq_true hl
          exact decide_eq_true (by omega)
        have ew : IntKind.i64.wrap ((k : Int) + 1) = ((k + 1 : Nat) : Int) := (wrap64 (by omega) (by omega)).trans (by omega)
        obtain ⟨y, hy⟩ := ih (k + 1) (IntKind.i64.wrap (t + ((fS (ps.getD (k : Int).toNat []) 0).size : Int))) (by omega) (by omega)
        refine ⟨y, (run_go ?_).trans hy⟩
        show stp18a ra rb rc ps false t (k : Int) = _
        unfold stp18a
        rw [hl, hk30, hi, ew]
        rfl
  obtain ⟨y, hy⟩ := key 31 0 0 rfl (by omega)
  have hy' : r18a ra rb rc ps false 0 0 = some y := hy
  unfold g18 t18 i18a_0
  rw [hy']
  cases y
  cases decide (ra > 300) <;> cases decide (ra ≤ 2000) <;> cases decide ((ps.length : Int) > 30) <;> rfl
theorem take_acc {ps : List (List AV)} {T : Nat → Nat → Int} {i h k : Nat} (hk : k < ps.length) : (ps.take (k + 1)).foldl (acc T i h) 0 = acc T i h ((ps.take k).foldl (acc T i h) 0) (ps.getD k []) := by
  have : ps.take (k + 1) = ps.take k ++ [ps.getD k []] := by
    rw [List.take_add_one, List.getElem?_eq_getElem hk]
    simp [List.getD_eq_getElem?_getD, List.getElem?_eq_getElem hk]
  rw [this, List.foldl_append]
  rfl
theorem take_le {ps : List (List AV)} {T : Nat → Nat → Int} {i h : Nat} (hT : okT T) (k : Nat) : (ps.take k).foldl (acc T i h) 0 ≤ ps.foldl (acc T i h) 0 ∧ 0 ≤ (ps.take k).foldl (acc T i h) 0 := by
  have h0 : (0 : Int) ≤ cap := by unfold cap; omega
  obtain ⟨h1, h2⟩ := acc_fold (i := i) (h := h) hT (ps.take k) h0
  have := (acc_fold (i := i) (h := h) hT (ps.drop k) h2).1
  rw [← List.foldl_append, List.take_append_drop] at this
  exact ⟨this, h1⟩
def isK (ps : List (List AV)) (k : Int) : Bool := decide (0 ≤ k) && decide (k ≤ (ps.length : Int) - 1)
def pk (ps : List (List AV)) (k : Int) : List AV := ps.getD k.toNat []
/-- Does a row fill a width from a profile on? -/
def fitsL (ps : List (List AV)) (c : Int) : Int → Int → List Int → Bool
  | n, b, [] => n == 0 && b == c
  | n, b, k :: ks => isK ps k && (fI (pk ps k) 2 == b && decide (fI (pk ps k) 1 ≤ n) && fitsL ps c (n - fI (pk ps k) 1) (fI (pk ps k) 3) ks)
def nums (ws : List (List AV)) : List Int := ws.map fun w => fI w 0
theorem nums_len (ws : List (List AV)) : (nums ws).length = ws.length := by simp [nums]
theorem nums_drop {ws : List (List AV)} {k : Nat} (h : k < ws.length) : (nums ws).drop k = fI (ws.getD k []) 0 :: (nums ws).drop (k + 1) := by
  unfold nums
  rw [← List.map_drop, ← List.map_drop, drop_cons [] h]
  rfl
theorem pk_mem {ps : List (List AV)} {k : Int} (h : isK ps k = true) : pk ps k ∈ ps := by
  simp only [isK, Bool.and_eq_true, decide_eq_true_eq] at h
  have hk : k.toNat < ps.length := by omega
  unfold pk
  simp only [List.getD_eq_getElem?_getD, List.getElem?_eq_getElem hk, Option.getD_some]
  exact List.getElem_mem hk
theorem pk_ok {ps : List (List AV)} (hps : okPs ps) {k : Int} (h : isK ps k = true) : okPc (pk ps k) := hps.2 _ (pk_mem h)
theorem isK_inb {ps : List (List AV)} {k : Int} (h : isK ps k = true) : inb k ps.length = true := by
  simp only [isK, Bool.and_eq_true, decide_eq_true_eq] at h
  obtain ⟨q, rfl⟩ : ∃ q : Nat, k = (q : Int) := ⟨k.toNat, by omega⟩
  rw [inb_nat]
  exact decide_eq_true (by omega)
theorem w71_all (q0 q1 : Int) (nm : ByteArray) (pa pb pc pd : Int) : w71_0 q0 q1 nm pa pb pc pd = IntKind.i64.wrap (q0 - pa) ∧ w71_1 q0 q1 nm pa pb pc pd = pc ∧ w71_2 q0 q1 nm pa pb pc pd = (pb == q1 && decide (pa ≤ q0)) := by
  unfold w71_0 w71_1 w71_2 t71
  cases pb == q1 <;> simp [Tr.val]
theorem len_pred {ps : List (List AV)} (h : ps.length ≤ 10) : IntKind.i64.wrap ((ps.length : Int) - 1) = (ps.length : Int) - 1 := wrap64 (by omega) (by omega)
theorem w55_isK (ps : List (List AV)) (k : Int) : w55_0 k 0 ((ps.length : Int) - 1) = isK ps k := by rw [w55_eq]; rfl
theorem fits_val {ra rb rc : Int} {ps ws : List (List AV)} (hF : Fine ra rb rc ps) (hw : ws.length < 9223372036854775807) : g64 ra rb rc ps ws = true ∧ w64_0 ra rb rc ps ws = fitsL ps rc ra rb (nums ws) := by
  have hl := hF.ps.1
  have run : ∃ y, r64a ra rb rc ps false ws (ws.length : Int) true 0 ra rb = some y ∧ (match y with
      | .x0 t _ _ _ _ => t = false ∧ fitsL ps rc ra rb ((nums ws).drop 0) = false
      | .x1 _ _ m0 m1 => (m0 == 0 && m1 == rc) = fitsL ps rc ra rb ((nums ws).drop 0)) := by
    unfold r64a
    refine run_for (S := Bool × Int × Int) ws.length (fun k s => (⟨s.1, (k : Int), s.2.1, s.2.2⟩ : S64a)) (fun _ s => 0 ≤ s.2.1 ∧ s.2.1 ≤ 2000) (fun k s (y : T64a) => match y with
      | .x0 t _ _ _ _ => t = false ∧ fitsL ps rc s.2.1 s.2.2 ((nums ws).drop k) = false
      | .x1 _ _ m0 m1 => (m0 == 0 && m1 == rc) = fitsL ps rc s.2.1 s.2.2 ((nums ws).drop k)) (fun k s hk hi => ?_) (fun s hi => ?_) 0 (true, ra, rb) (Nat.zero_le _) hF.a
    · obtain ⟨b, n, h⟩ := s
      simp only at hi
      show (∃ s', stp64a ra rb rc ps false ws (ws.length : Int) b (k : Int) n h = _ ∧ _) ∨ ∃ y, stp64a ra rb rc ps false ws (ws.length : Int) b (k : Int) n h = _ ∧ _
      unfold stp64a
      rw [Int.toNat_natCast]
      simp only [lt_true hk, inb_true hk, cond_true, wrap_succ (show k < 9223372036854775807 by omega), g55_true, len_pred hl, w55_isK, g71_true, w71_all]
      rw [nums_drop hk]
      generalize fI (ws.getD k []) 0 = v
      cases hv : isK ps v with
      | false =>
        refine .inr ⟨_, rfl, rfl, ?_⟩
        show (isK ps v && _) = false
        rw [hv]; rfl
      | true =>
        obtain ⟨b1, b2, b3, b4, b5, b6⟩ := pk_ok hF.ps hv
        simp only [Bool.not_true, cond_false, isK_inb hv, cond_true]
        have hp : ps.getD v.toNat [] = pk ps v := rfl
        rw [hp]
        cases hc : (fI (pk ps v) 2 == h && decide (fI (pk ps v) 1 ≤ n)) with
        | false =>
          refine .inr ⟨_, rfl, rfl, ?_⟩
          show (isK ps v && (fI (pk ps v) 2 == h && decide (fI (pk ps v) 1 ≤ n) && _)) = false
          rw [hv, hc]; rfl
        | true =>
          have h2 : fI (pk ps v) 1 ≤ n := by
            simp only [Bool.and_eq_true, decide_eq_true_eq] at hc
            exact hc.2
          rw [wrap64 (by omega) (by omega)]
          have hf : fitsL ps rc n h (v :: (nums ws).drop (k + 1)) = fitsL ps rc (n - fI (pk ps v) 1) (fI (pk ps v) 3) ((nums ws).drop (k + 1)) := by
            show (isK ps v && (fI (pk ps v) 2 == h && decide (fI (pk ps v) 1 ≤ n) && _)) = _
            rw [hv, hc]
            simp
          refine .inl ⟨(true, n - fI (pk ps v) 1, fI (pk ps v) 3), rfl, ⟨?_, ?_⟩, fun y hy => ?_⟩
          · show 0 ≤ n - fI (pk ps v) 1
            omega
          · show n - fI (pk ps v) 1 ≤ 2000
            omega
          · simp only [hf]
            exact hy
    · obtain ⟨b, n, h⟩ := s
      refine ⟨.x1 b (ws.length : Int) n h, ?_, ?_⟩
      · show stp64a ra rb rc ps false ws (ws.length : Int) b (ws.length : Int) n h = _
        unfold stp64a
        rw [lt_false]; rfl
      · show (n == 0 && h == rc) = fitsL ps rc n h ((nums ws).drop ws.length)
        rw [List.drop_of_length_le (by rw [nums_len]; exact Nat.le_refl _)]
        rfl
  obtain ⟨y, hy, hv⟩ := run
  have p0 : w52_0 ra rb rc ps = ra := rfl
  have p1 : w52_1 ra rb rc ps = rb := rfl
  unfold g64 w64_0 t64 i64a_0 i64a_1 v64a_0_t4' v64a_1_m4_0 v64a_1_m4_1
  rw [p0, p1, hy]
  rw [List.drop_zero] at hv
  cases y with
  | x0 t _ _ _ _ => exact ⟨rfl, hv.1.trans hv.2.symm⟩
  | x1 _ _ m0 m1 => exact ⟨rfl, hv⟩
/-- How often a number stands in a list. -/
def cntIn (j : Nat) : List Int → Int
  | [] => 0
  | k :: ks => (if k = (j : Int) then 1 else 0) + cntIn j ks
theorem cntIn_cons (j : Nat) (k : Int) (ks : List Int) : cntIn j (k :: ks) = (if k = (j : Int) then 1 else 0) + cntIn j ks := rfl
theorem cntIn_le (j : Nat) : ∀ l : List Int, 0 ≤ cntIn j l ∧ cntIn j l ≤ l.length
  | [] => by simp [cntIn]
  | k :: ks => by
    have := cntIn_le j ks
    unfold cntIn
    simp only [List.length_cons]
    split <;> omega
def allK (ps : List (List AV)) (ks : List Int) : Prop := ∀ k, k ∈ ks → isK ps k = true
theorem fitsL_all {ps : List (List AV)} {c : Int} : ∀ {ks : List Int} {n b : Int}, fitsL ps c n b ks = true → allK ps ks
  | [], _, _, _ => fun k hk => by simp at hk
  | k :: ks, n, b, h => by
    have h : (isK ps k && (fI (pk ps k) 2 == b && decide (fI (pk ps k) 1 ≤ n) && fitsL ps c (n - fI (pk ps k) 1) (fI (pk ps k) 3) ks)) = true := h
    rw [Bool.and_eq_true, Bool.and_eq_true] at h
    intro q hq
    rcases List.mem_cons.1 hq with rfl | hq
    · exact h.1
    · exact fitsL_all h.2.2 q hq
theorem isK_nat {ps : List (List AV)} {k : Int} (h : isK ps k = true) : ∃ q : Nat, k = (q : Int) ∧ q < ps.length := by
  simp only [isK, Bool.and_eq_true, decide_eq_true_eq] at h
  exact ⟨k.toNat, by omega, by omega⟩
theorem needs34 {ps ws : List (List AV)} (t5 : Int) (hw : ws.length < 9223372036854775807) (hall : allK ps (nums ws)) :
    r34a t5 ps.length ws (ws.length : Int) 0 (ones (fun _ => 0) ps.length) = some (.x0 (ws.length : Int) (ones (fun j => cntIn j (nums ws)) ps.length)) := by
  have run : ∃ y, r34a t5 ps.length ws (ws.length : Int) 0 (ones (fun _ => 0) ps.length) = some y ∧ y = .x0 (ws.length : Int) (ones (fun j => 0 + cntIn j ((nums ws).drop 0)) ps.length) := by
    unfold r34a
    refine run_for (S := Nat → Int) ws.length (fun k f => (⟨(k : Int), ones f ps.length⟩ : S34a)) (fun k f => ∀ j, 0 ≤ f j ∧ f j ≤ k) (fun k f (y : T34a) => y = .x0 (ws.length : Int) (ones (fun j => f j + cntIn j ((nums ws).drop k)) ps.length)) (fun k f hk hf => ?_) (fun f hf => ?_) 0 (fun _ => 0) (Nat.zero_le _) (fun j => ⟨Int.le_refl _, Int.le_refl _⟩)
    · left
      have hm : isK ps (fI (ws.getD k []) 0) = true := hall _ (by
        unfold nums
        exact List.mem_map.2 ⟨_, drop_mem [] hk, rfl⟩)
      have hd := nums_drop hk
      obtain ⟨q, hq, hql⟩ := isK_nat hm
      have fq := hf q
      refine ⟨upd f q (f q + 1), ?_, fun j => ?_, fun y hy => ?_⟩
      · show stp34a t5 ps.length ws (ws.length : Int) (k : Int) (ones f ps.length) = _
        unfold stp34a
        have hb : q.blt (ones f ps.length).length = true := by
          rw [ones_len]
          simpa [Nat.blt_eq] using hql
        simp only [lt_true hk, inb_true hk, cond_true, Int.toNat_natCast, wrap_succ (show k < 9223372036854775807 by omega), hq, inb_true hql, hb, Bool.and_true, Nat.zero_add, ones_get hql]
        have e1 : fI [AV.i IntKind.i64 (f q)] 0 = f q := rfl
        rw [e1, wrap64 (by omega) (by omega)]
        have e2 : setCs [AV.i IntKind.i64 (f q)] 0 [AV.i IntKind.i64 (f q + 1)] = [AV.i IntKind.i64 (f q + 1)] := rfl
        rw [e2, ones_set hql]
      · have := hf j
        unfold upd
        split <;> omega
      · rw [hy, hd]
        congr 2
        funext j
        rw [hq]
        rw [cntIn_cons]
        unfold upd
        by_cases e : j = q
        · subst e; simp; omega
        · have : ¬ (q : Int) = (j : Int) := by omega
          simp [e, this]
    · refine ⟨.x0 (ws.length : Int) (ones f ps.length), ?_, ?_⟩
      · show stp34a t5 ps.length ws (ws.length : Int) (ws.length : Int) (ones f ps.length) = _
        unfold stp34a
        rw [lt_false]; rfl
      · rw [List.drop_of_length_le (by rw [nums_len]; exact Nat.le_refl _)]
        simp [cntIn]
  obtain ⟨y, h1, h2⟩ := run
  rw [h1, h2]
  simp
theorem make_ok {n : Nat} (h : n ≤ 10) : (decide ((n : Int) = (n : Int)) && (decide (0 ≤ (n : Int)) && decide ((n : Int) * (8 : Int) ≤ 140737488355328) && decide ((n : Int) ≤ 9223372036854775807))) = true := by
  simp only [Bool.and_eq_true, decide_eq_true_eq]
  exact ⟨trivial, ⟨by omega, by omega⟩, by omega⟩
/-- What is needed of each piece. -/
def needL (ps : List (List AV)) (ks : List Int) : List (List AV) := ones (fun j => cntIn j ks) ps.length
theorem needs_val {ra rb rc : Int} {ps ws : List (List AV)} (hF : Fine ra rb rc ps) (h0 : w29_0 ra rb rc ps = 0) (hw : ws.length < 9223372036854775807) :
    g34 ra rb rc ps ws = true ∧ w34_1 ra rb rc ps ws = (if fitsL ps rc ra rb (nums ws) then 0 else 8) ∧ w34_0 ra rb rc ps ws = (if fitsL ps rc ra rb (nums ws) then needL ps (nums ws) else []) := by
  obtain ⟨f1, f2⟩ := fits_val hF hw
  have hz : (w29_0 ra rb rc ps != 0) = false := by simp [h0]
  unfold g34 w34_1 w34_0 t34
  rw [g29_true, hz, f1, f2]
  cases hf : fitsL ps rc ra rb (nums ws) with
  | false => exact ⟨rfl, rfl, rfl⟩
  | true =>
    have hr := needs34 0 hw (fitsL_all hf)
    have hl := hF.ps.1
    rw [make_ok hl]
    simp only [Int.toNat_natCast, ones_zero]
    unfold i34a_0 v34a_0_m15
    rw [hr]
    simp only [ones_len, Nat.zero_add, Nat.beq_refl, Bool.not_true, cond_true, cond_false, Tr.g, Tr.val, if_true, show ps.length.ble ps.length = true by simp [Nat.ble_eq]]
    exact ⟨trivial, trivial, rfl⟩
theorem fine_of {ra rb rc : Int} {ps : List (List AV)} (h : w29_0 ra rb rc ps = 0) : Fine ra rb rc ps := by
  rcases check_err ra rb rc ps with h' | ⟨h', _⟩
  · exact absurd h h'
  · exact h'
def wd (ps : List (List AV)) (k : Nat) : Nat := pL (ps.getD k [])
def lf (ps : List (List AV)) (k : Nat) : Nat := pA (ps.getD k [])
def rt (ps : List (List AV)) (k : Nat) : Nat := pB (ps.getD k [])
def sm (ps : List (List AV)) (c n h k : Nat) : Int := (ps.take k).foldl (acc (fun m => cnt ps c m) n h) 0
theorem okC (ps : List (List AV)) (c : Nat) : okT (fun m => cnt ps c m) := fun n h => cnt_ok ps c n h
theorem sm_zero (ps : List (List AV)) (c n h : Nat) : sm ps c n h 0 = 0 := rfl
theorem sm_len {ps : List (List AV)} {c n h : Nat} (hps : okPs ps) (hn : 0 < n) : sm ps c n h ps.length = cnt ps c n h := by
  obtain ⟨m, rfl⟩ : ∃ m, n = m + 1 := ⟨n - 1, by omega⟩
  unfold sm
  rw [List.take_length, cnt_rec hps]
theorem sm_le {ps : List (List AV)} {c n h : Nat} (hps : okPs ps) (hn : 0 < n) (k : Nat) : 0 ≤ sm ps c n h k ∧ sm ps c n h k ≤ cnt ps c n h := by
  obtain ⟨h1, h2⟩ := take_le (ps := ps) (i := n) (h := h) (okC ps c) k
  refine ⟨h2, ?_⟩
  have := sm_len (c := c) (h := h) hps hn
  unfold sm at this ⊢
  rw [List.take_length] at this
  rw [← this]
  exact h1
theorem sm_succ {ps : List (List AV)} {c n h k : Nat} (hps : okPs ps) (hn : 0 < n) (hk : k < ps.length) (hs : cnt ps c n h ≤ 1000000000000000) :
    sm ps c n h (k + 1) = sm ps c n h k + (if lf ps k = h ∧ wd ps k ≤ n then cnt ps c (n - wd ps k) (rt ps k) else 0) := by
  have h1 := (sm_le (c := c) (h := h) hps hn (k + 1)).2
  have h2 := (sm_le (c := c) (h := h) hps hn k)
  have ht : sm ps c n h (k + 1) = acc (fun m => cnt ps c m) n h (sm ps c n h k) (ps.getD k []) := take_acc hk
  rw [ht] at h1 ⊢
  unfold acc at h1 ⊢
  have e : (pA (ps.getD k []) = h ∧ pL (ps.getD k []) ≤ n) = (lf ps k = h ∧ wd ps k ≤ n) := rfl
  simp only [e] at h1 ⊢
  split
  · rename_i hc
    rw [if_pos hc] at h1
    have hx := cnt_ok ps c (n - wd ps k) (rt ps k)
    change bmin (sm ps c n h k + cnt ps c (n - wd ps k) (rt ps k)) cap = _
    change bmin (sm ps c n h k + cnt ps c (n - wd ps k) (rt ps k)) cap ≤ _ at h1
    rw [bmin_le] at h1 ⊢
    unfold cap at *
    split at h1
    · rw [if_pos (by assumption)]
    · omega
  · omega
theorem pc_ok {ps : List (List AV)} (hps : okPs ps) {k : Nat} (hk : k < ps.length) : okPc (ps.getD k []) := hps.2 _ (drop_mem [] hk)
theorem pc_nat {ps : List (List AV)} (hps : okPs ps) {k : Nat} (hk : k < ps.length) : fI (ps.getD k []) 1 = (wd ps k : Int) ∧ fI (ps.getD k []) 2 = (lf ps k : Int) ∧ fI (ps.getD k []) 3 = (rt ps k : Int) ∧ 1 ≤ wd ps k ∧ wd ps k ≤ 2000 ∧ lf ps k < 10 ∧ rt ps k < 10 := by
  obtain ⟨b1, b2, b3, b4, b5, b6⟩ := pc_ok hps hk
  unfold wd lf rt pL pA pB
  omega
/-- A piece that has the x-th way. -/
theorem sm_fits {ps : List (List AV)} {c n h k : Nat} {x : Int} (hps : okPs ps) (hn : 0 < n) (hk : k < ps.length) (hs : cnt ps c n h ≤ 1000000000000000) (h1 : sm ps c n h k ≤ x) (h2 : x < sm ps c n h (k + 1)) :
    (lf ps k = h ∧ wd ps k ≤ n) ∧ 0 ≤ x - sm ps c n h k ∧ x - sm ps c n h k < cnt ps c (n - wd ps k) (rt ps k) ∧ cnt ps c (n - wd ps k) (rt ps k) ≤ 1000000000000000 := by
  rw [sm_succ hps hn hk hs] at h2
  split at h2
  · rename_i hc
    refine ⟨hc, by omega, by omega, ?_⟩
    have h3 := (sm_le (c := c) (h := h) hps hn (k + 1)).2
    rw [sm_succ hps hn hk hs, if_pos hc] at h3
    have := (sm_le (c := c) (h := h) hps hn k).1
    omega
  · omega
inductive NthR (ps : List (List AV)) (c : Nat) : Nat → Nat → Int → List Nat → Prop
  | nil : NthR ps c 0 c 0 []
  | cons {n h i : Nat} {x : Int} {row : List Nat} : 0 < n → i < ps.length → sm ps c n h i ≤ x → x < sm ps c n h (i + 1) → NthR ps c (n - wd ps i) (rt ps i) (x - sm ps c n h i) row → NthR ps c n h x (i :: row)
def rowI (row : List Nat) : List Int := row.map fun (i : Nat) => (i : Int)
theorem nums_rowAV (row : List Nat) : nums (rowAV row) = rowI row := by
  unfold nums rowAV rowI
  rw [List.map_map]
  rfl
theorem cnt_zero (ps : List (List AV)) (c h : Nat) : cnt ps c 0 h = if h = c then 1 else 0 := rfl
/-- The table holds the counts. -/
theorem tab_cnt {ps : List (List AV)} {c N n h : Nat} (hn : n ≤ N) (hh : h < 10) : g51 (tab (N + 1) (tabs ps c N)) (n : Int) (h : Int) = true ∧ w51_0 (tab (N + 1) (tabs ps c N)) (n : Int) (h : Int) = cnt ps c n h := by
  obtain ⟨h1, h2⟩ := of_tab (N := N + 1) (n := n) (b := h) (T := tabs ps c N) (by omega) hh
  refine ⟨h1, h2.trans ?_⟩
  rw [tabs_stable ps c hn]
  rfl
theorem tab_toI {ps : List (List AV)} {c N n h : Nat} (hn : n ≤ N) (hh : h < 10) : toI (((tab (N + 1) (tabs ps c N)).getD n []).getD h AV.u) = cnt ps c n h := by
  rw [tab_get (by omega), tabR_get hh, tabs_stable ps c hn]
  rfl
theorem piece40 {ra rb rc t5 : Int} {ps T9 : List (List AV)} {c N n h : Nat} {x : Int} (hps : okPs ps) (hN : N ≤ 2000) (hn : 0 < n) (hnN : n ≤ N) (hh : h < 10) (h9 : T9.length ≤ 4000) (hx : 0 ≤ x) (hx2 : x < cnt ps c n h) (hs : cnt ps c n h ≤ 1000000000000000) :
    ∃ i, i < ps.length ∧ sm ps c n h i ≤ x ∧ x < sm ps c n h (i + 1) ∧
      r40aa ra rb rc ps t5 (tab (N + 1) (tabs ps c N)) T9 ps (ps.length : Int) (n : Int) (h : Int) x 0 = some (.x0 (x - sm ps c n h i) (T9 ++ [[.i .i64 (i : Int)]]) (i : Int) ((n - wd ps i : Nat) : Int) (rt ps i : Int)) := by
  have hl := hps.1
  have run : ∃ y, r40aa ra rb rc ps t5 (tab (N + 1) (tabs ps c N)) T9 ps (ps.length : Int) (n : Int) (h : Int) x 0 = some y ∧ (∃ i, i < ps.length ∧ sm ps c n h i ≤ x ∧ x < sm ps c n h (i + 1) ∧ y = .x0 (x - sm ps c n h i) (T9 ++ [[.i .i64 (i : Int)]]) (i : Int) ((n - wd ps i : Nat) : Int) (rt ps i : Int)) := by
    unfold r40aa
    refine run_for (S := Int) ps.length (fun k s => (⟨s, (k : Int)⟩ : S40aa)) (fun k s => s = x - sm ps c n h k ∧ sm ps c n h k ≤ x) (fun _ _ (y : T40aa) => ∃ i, i < ps.length ∧ sm ps c n h i ≤ x ∧ x < sm ps c n h (i + 1) ∧ y = .x0 (x - sm ps c n h i) (T9 ++ [[.i .i64 (i : Int)]]) (i : Int) ((n - wd ps i : Nat) : Int) (rt ps i : Int)) (fun k s hk hi => ?_) (fun s hi => ?_) 0 x (Nat.zero_le _) ⟨by rw [sm_zero]; omega, hx⟩
    · obtain ⟨rfl, hle⟩ := hi
      obtain ⟨p1, p2, p3, p4, p5, p6, p7⟩ := pc_nat hps hk
      have hsu := sm_succ (c := c) (h := h) hps hn hk hs
      have hsl := sm_le (c := c) (h := h) hps hn k
      show (∃ s', stp40aa ra rb rc ps t5 (tab (N + 1) (tabs ps c N)) T9 ps (ps.length : Int) (n : Int) (h : Int) (x - sm ps c n h k) (k : Int) = _ ∧ _) ∨ ∃ y, stp40aa ra rb rc ps t5 (tab (N + 1) (tabs ps c N)) T9 ps (ps.length : Int) (n : Int) (h : Int) (x - sm ps c n h k) (k : Int) = _ ∧ _
      unfold stp40aa
      rw [Int.toNat_natCast]
      simp only [lt_true hk, inb_true hk, cond_true, wrap_succ (show k < 9223372036854775807 by omega), g71_true, w71_all, p1, p2, p3]
      by_cases hc : lf ps k = h ∧ wd ps k ≤ n
      · rw [if_pos hc] at hsu
        have e1 : ((lf ps k : Int) == (h : Int) && decide ((wd ps k : Int) ≤ (n : Int))) = true := by
          rw [Bool.and_eq_true, decide_eq_true_eq, beq_iff_eq]
          omega
        have e2 : IntKind.i64.wrap ((n : Int) - (wd ps k : Int)) = ((n - wd ps k : Nat) : Int) := (wrap64 (by omega) (by omega)).trans (by omega)
        obtain ⟨t1, t2⟩ := tab_cnt (ps := ps) (c := c) (N := N) (n := n - wd ps k) (h := rt ps k) (by omega) p7
        simp only [e1, e2, t1, t2, Bool.not_true, cond_false, cond_true]
        have hco := cnt_ok ps c (n - wd ps k) (rt ps k)
        by_cases hge : x - sm ps c n h k ≥ cnt ps c (n - wd ps k) (rt ps k)
        · left
          rw [decide_eq_true hge, wrap64 (by omega) (by omega)]
          exact ⟨x - sm ps c n h (k + 1), by rw [cond_true, hsu, Int.sub_sub], ⟨rfl, by omega⟩, fun y hy => hy⟩
        · right
          rw [decide_eq_false hge]
          have l1 : (T9.length + [[AV.i IntKind.i64 (k : Int)]].length).ble 9223372036854775807 = true := by
            rw [Nat.ble_eq]
            show T9.length + 1 ≤ _
            omega
          have l2 : ((T9.length + [[AV.i IntKind.i64 (k : Int)]].length) * 8).ble 140737488355328 = true := by
            rw [Nat.ble_eq]
            show (T9.length + 1) * 8 ≤ _
            omega
          rw [l1, l2]
          exact ⟨_, rfl, k, hk, hle, by omega, rfl⟩
      · rw [if_neg hc] at hsu
        have e1 : ((lf ps k : Int) == (h : Int) && decide ((wd ps k : Int) ≤ (n : Int))) = false := by
          rw [Bool.eq_false_iff]
          intro h'
          rw [Bool.and_eq_true, decide_eq_true_eq, beq_iff_eq] at h'
          exact hc (by omega)
        rw [e1]
        left
        exact ⟨x - sm ps c n h (k + 1), by rw [hsu, Int.add_zero]; rfl, ⟨rfl, by omega⟩, fun y hy => hy⟩
    · have := sm_len (c := c) (h := h) hps hn
      omega
  obtain ⟨y, h1, i, h2, h3, h4, h5⟩ := run
  exact ⟨i, h2, h3, h4, by rw [h1, h5]⟩
theorem cnt_pos_zero {ps : List (List AV)} {c h : Nat} {x : Int} (h1 : 0 ≤ x) (h2 : x < cnt ps c 0 h) : h = c ∧ x = 0 := by
  rw [cnt_zero] at h2
  split at h2
  · exact ⟨by assumption, by omega⟩
  · omega
theorem nth40 {ra rb rc t5 : Int} {ps : List (List AV)} {c N h : Nat} {x : Int} (hps : okPs ps) (hN : N ≤ 2000) (hh : h < 10) (hx : 0 ≤ x) (hx2 : x < cnt ps c N h) (hs : cnt ps c N h ≤ 1000000000000000) :
    ∃ row, NthR ps c N h x row ∧ ∃ a b, r40a ra rb rc ps t5 (tab (N + 1) (tabs ps c N)) x [] (N : Int) (h : Int) = some (.x0 a (rowAV row) 0 b) := by
  have run : ∃ y, r40a ra rb rc ps t5 (tab (N + 1) (tabs ps c N)) x [] (N : Int) (h : Int) = some y ∧ (∃ row, NthR ps c N h x row ∧ ∃ a b, y = .x0 a ([] ++ rowAV row) 0 b) := by
    unfold r40a
    refine run_while (S := Int × List (List AV) × Nat × Nat) (fun s => s.2.2.1) (fun s => (⟨s.1, s.2.1, (s.2.2.1 : Int), (s.2.2.2 : Int)⟩ : S40a)) (fun s => s.2.2.1 ≤ N ∧ s.2.2.2 < 10 ∧ s.2.1.length + s.2.2.1 ≤ 2000 ∧ 0 ≤ s.1 ∧ s.1 < cnt ps c s.2.2.1 s.2.2.2 ∧ cnt ps c s.2.2.1 s.2.2.2 ≤ 1000000000000000)
      (fun s (y : T40a) => ∃ row, NthR ps c s.2.2.1 s.2.2.2 s.1 row ∧ ∃ a b, y = .x0 a (s.2.1 ++ rowAV row) 0 b) (fun s hi => ?_) (x, [], N, h) ⟨Nat.le_refl _, hh, by show 0 + N ≤ 2000; omega, hx, hx2, hs⟩
    obtain ⟨x, T9, n, h⟩ := s
    obtain ⟨i1, i2, i3, i4, i5, i6⟩ := hi
    simp only at i1 i2 i3 i4 i5 i6
    show (∃ s', stp40a ra rb rc ps t5 (tab (N + 1) (tabs ps c N)) x T9 (n : Int) (h : Int) = _ ∧ _) ∨ ∃ y, stp40a ra rb rc ps t5 (tab (N + 1) (tabs ps c N)) x T9 (n : Int) (h : Int) = _ ∧ _
    unfold stp40a
    rcases Nat.eq_zero_or_pos n with rfl | hn
    · right
      obtain ⟨rfl, rfl⟩ := cnt_pos_zero i4 i5
      exact ⟨_, rfl, [], .nil, 0, (h : Int), by rw [show rowAV [] = [] from rfl, List.append_nil]; rfl⟩
    · left
      have d : decide ((n : Int) > 0) = true := decide_eq_true (by omega)
      obtain ⟨i, j1, j2, j3, j4⟩ := piece40 (ra := ra) (rb := rb) (rc := rc) (t5 := t5) (T9 := T9) hps hN hn i1 i2 (by omega) i4 i5 i6
      obtain ⟨q1, q2, q3, q4⟩ := sm_fits hps hn j1 i6 j2 j3
      obtain ⟨p1, p2, p3, p4, p5, p6, p7⟩ := pc_nat hps j1
      unfold i40aa_0 v40aa_0_t1 v40aa_0_t9' v40aa_0_m14_0' v40aa_0_m14_1'
      rw [j4, d]
      refine ⟨(x - sm ps c n h i, T9 ++ [[.i .i64 (i : Int)]], n - wd ps i, rt ps i), rfl, ⟨by show n - wd ps i ≤ N; omega, p7, ?_, q2, q3, q4⟩, ?_, ?_⟩
      · show (T9 ++ [[AV.i .i64 (i : Int)]]).length + (n - wd ps i) ≤ 2000
        rw [List.length_append]
        show T9.length + 1 + (n - wd ps i) ≤ 2000
        omega
      · show n - wd ps i < n
        omega
      · rintro y ⟨row, hr, a, b, rfl⟩
        refine ⟨i :: row, .cons hn j1 j2 j3 hr, a, b, ?_⟩
        show T40a.x0 a ((T9 ++ [[AV.i .i64 (i : Int)]]) ++ rowAV row) 0 b = _
        rw [List.append_assoc]
        rfl
  obtain ⟨y, h1, row, h2, a, b, h3⟩ := run
  exact ⟨row, h2, a, b, by rw [h1, h3]; rfl⟩
theorem fine_nat {ra rb rc : Int} {ps : List (List AV)} (h : Fine ra rb rc ps) : ∃ n b c : Nat, ra = (n : Int) ∧ rb = (b : Int) ∧ rc = (c : Int) ∧ n ≤ 2000 ∧ b < 10 ∧ c < 10 := by
  obtain ⟨⟨a1, a2⟩, ⟨b1, b2⟩, ⟨c1, c2⟩, hps⟩ := h
  exact ⟨ra.toNat, rb.toNat, rc.toNat, by omega, by omega, by omega, by omega, by omega, by omega⟩
theorem counted_val {ps : List (List AV)} {n b c : Nat} (hps : okPs ps) (hn : n ≤ 2000) (hb : b < 10) (hc : c < 10) (hw : w29_0 (n : Int) (b : Int) (c : Int) ps = 0) :
    g50 (n : Int) (b : Int) (c : Int) ps = true ∧
    ((cnt ps c n b > 1000000000000000 ∧ w50_1 (n : Int) (b : Int) (c : Int) ps = 3) ∨
     (cnt ps c n b ≤ 1000000000000000 ∧ w50_1 (n : Int) (b : Int) (c : Int) ps = 0 ∧ w50_0 (n : Int) (b : Int) (c : Int) ps = tab (n + 1) (tabs ps c n))) := by
  obtain ⟨c1, c2⟩ := count_val (rb := (b : Int)) hps hn hc
  obtain ⟨o1, o2⟩ := tab_cnt (ps := ps) (c := c) (N := n) (n := n) (h := b) (Nat.le_refl _) hb
  have o3 := tab_toI (ps := ps) (c := c) (N := n) (n := n) (h := b) (Nat.le_refl _) hb
  have p0 : w52_0 (n : Int) (b : Int) (c : Int) ps = (n : Int) := rfl
  have p1 : w52_1 (n : Int) (b : Int) (c : Int) ps = (b : Int) := rfl
  have hz : (w29_0 (n : Int) (b : Int) (c : Int) ps != 0) = false := by simp [hw]
  have cb := cts91 hb
  simp only [Int.toNat_natCast, Nat.zero_add, Nat.mul_one] at cb
  have ib : inb (b : Int) 10 = true := by simp [inb_nat, hb]
  have i0 : inb (n : Int) (n + 1) = true := by simp [inb_nat]
  unfold g50 w50_1 w50_0 t50
  simp only [g29_true, hz, c1, c2, p0, p1, o1, o2]
  cases hd : decide (cnt ps c n b > 1000000000000000) with
  | true => exact ⟨rfl, .inl ⟨of_decide_eq_true hd, rfl⟩⟩
  | false => exact ⟨rfl, .inr ⟨by have := of_decide_eq_false hd; omega, rfl, rfl⟩⟩
theorem ways_nat {ps : List (List AV)} {n b c : Nat} (hps : okPs ps) (hn : n ≤ 2000) (hb : b < 10) (hc : c < 10) (hw : w29_0 (n : Int) (b : Int) (c : Int) ps = 0) :
    g20 (n : Int) (b : Int) (c : Int) ps = true ∧ ((cnt ps c n b > 1000000000000000 ∧ w20_1 (n : Int) (b : Int) (c : Int) ps = 3 ∧ w20_0 (n : Int) (b : Int) (c : Int) ps = 0) ∨ (cnt ps c n b ≤ 1000000000000000 ∧ w20_1 (n : Int) (b : Int) (c : Int) ps = 0 ∧ w20_0 (n : Int) (b : Int) (c : Int) ps = cnt ps c n b)) := ways_val hps hn hb hc hw
theorem nth_val {ps : List (List AV)} {n b c : Nat} {x : Int} (hps : okPs ps) (hn : n ≤ 2000) (hb : b < 10) (hc : c < 10) (hw : w29_0 (n : Int) (b : Int) (c : Int) ps = 0) (hs : cnt ps c n b ≤ 1000000000000000) (hx : 0 ≤ x ∧ x < cnt ps c n b) :
    ∃ row, NthR ps c n b x row ∧ (g40 (n : Int) (b : Int) (c : Int) ps x = true ∧ w40_1 (n : Int) (b : Int) (c : Int) ps x = 0 ∧ w40_0 (n : Int) (b : Int) (c : Int) ps x = rowAV row) := by
  obtain ⟨g1, g3⟩ := counted_val hps hn hb hc hw
  rcases g3 with ⟨h1, _⟩ | ⟨_, h1, h2⟩
  · omega
  obtain ⟨o1, o2⟩ := tab_cnt (ps := ps) (c := c) (N := n) (n := n) (h := b) (Nat.le_refl _) hb
  have p0 : w52_0 (n : Int) (b : Int) (c : Int) ps = (n : Int) := rfl
  have p1 : w52_1 (n : Int) (b : Int) (c : Int) ps = (b : Int) := rfl
  have hco := cnt_ok ps c n b
  have ew : IntKind.i64.wrap (cnt ps c n b - 1) = cnt ps c n b - 1 := wrap64 (by omega) (by omega)
  have z1 : ((0 : Int) != 0) = false := by decide
  have hd : (decide (0 ≤ x) && decide (x ≤ cnt ps c n b - 1)) = true := by
    rw [Bool.and_eq_true, decide_eq_true_eq, decide_eq_true_eq]
    omega
  obtain ⟨row, hr, a1, a2, a3⟩ := nth40 (ra := (n : Int)) (rb := (b : Int)) (rc := (c : Int)) (t5 := 0) hps hn hb hx.1 hx.2 hs
  refine ⟨row, hr, ?_⟩
  unfold g40 w40_1 w40_0 t40
  simp only [g1, h1, h2, z1, p0, p1, o1, o2, ew, g55_true, w55_eq, hd]
  unfold i40a_0 v40a_0_t9
  rw [a3]
  exact ⟨rfl, rfl, rfl⟩
/-- The number of a row. -/
def rankL (ps : List (List AV)) (c : Nat) : Nat → Nat → List Int → Int
  | _, _, [] => 0
  | n, h, k :: ks => sm ps c n h k.toNat + rankL ps c (n - wd ps k.toNat) (rt ps k.toNat) ks
theorem fitsL_cons {ps : List (List AV)} {c n h : Nat} {k : Int} {ks : List Int} (hps : okPs ps) (h1 : fitsL ps (c : Int) (n : Int) (h : Int) (k :: ks) = true) :
    ∃ q : Nat, k = (q : Int) ∧ q < ps.length ∧ lf ps q = h ∧ wd ps q ≤ n ∧ 0 < n ∧ fitsL ps (c : Int) ((n - wd ps q : Nat) : Int) (rt ps q : Int) ks = true := by
  have h1 : (isK ps k && (fI (pk ps k) 2 == (h : Int) && decide (fI (pk ps k) 1 ≤ (n : Int)) && fitsL ps (c : Int) ((n : Int) - fI (pk ps k) 1) (fI (pk ps k) 3) ks)) = true := h1
  rw [Bool.and_eq_true, Bool.and_eq_true, Bool.and_eq_true, beq_iff_eq, decide_eq_true_eq] at h1
  obtain ⟨h2, ⟨h3, h4⟩, h5⟩ := h1
  obtain ⟨q, rfl, hq⟩ := isK_nat h2
  obtain ⟨p1, p2, p3, p4, p5, p6, p7⟩ := pc_nat hps hq
  have e : pk ps (q : Int) = ps.getD q [] := rfl
  rw [e] at h3 h4 h5
  rw [p1] at h4 h5
  rw [p2] at h3
  rw [p3] at h5
  refine ⟨q, rfl, hq, by omega, by omega, by omega, ?_⟩
  have : ((n - wd ps q : Nat) : Int) = (n : Int) - (wd ps q : Int) := by omega
  rw [this]
  exact h5
theorem fitsL_mk {ps : List (List AV)} {c n h q : Nat} {ks : List Int} (hps : okPs ps) (hq : q < ps.length) (h1 : lf ps q = h) (h2 : wd ps q ≤ n) (h3 : fitsL ps (c : Int) ((n - wd ps q : Nat) : Int) (rt ps q : Int) ks = true) : fitsL ps (c : Int) (n : Int) (h : Int) ((q : Int) :: ks) = true := by
  show (isK ps (q : Int) && (fI (pk ps (q : Int)) 2 == (h : Int) && decide (fI (pk ps (q : Int)) 1 ≤ (n : Int)) && fitsL ps (c : Int) ((n : Int) - fI (pk ps (q : Int)) 1) (fI (pk ps (q : Int)) 3) ks)) = true
  obtain ⟨p1, p2, p3, p4, p5, p6, p7⟩ := pc_nat hps hq
  have e : pk ps (q : Int) = ps.getD q [] := rfl
  rw [e, p1, p2, p3, Bool.and_eq_true, Bool.and_eq_true, Bool.and_eq_true, beq_iff_eq, decide_eq_true_eq]
  have : ((n - wd ps q : Nat) : Int) = (n : Int) - (wd ps q : Int) := by omega
  rw [this] at h3
  refine ⟨?_, ⟨by omega, by omega⟩, h3⟩
  unfold isK
  rw [Bool.and_eq_true, decide_eq_true_eq, decide_eq_true_eq]
  omega
theorem NthR_len {ps : List (List AV)} {c n h : Nat} {x : Int} {row : List Nat} (hps : okPs ps) (h1 : NthR ps c n h x row) : cnt ps c n h ≤ 1000000000000000 → row.length ≤ n := by
  induction h1 with
  | nil => exact fun _ => Nat.le_refl _
  | cons h0 hi ha hb hr ih =>
    intro hs
    obtain ⟨⟨_, hw⟩, _, _, h4⟩ := sm_fits hps h0 hi hs ha hb
    obtain ⟨p1, p2, p3, p4, p5, p6, p7⟩ := pc_nat hps hi
    have := ih h4
    simp only [List.length_cons]
    omega
theorem fitsL_nil (ps : List (List AV)) (c : Nat) : fitsL ps (c : Int) ((0 : Nat) : Int) (c : Int) [] = true := by
  show (((0 : Nat) : Int) == 0 && (c : Int) == (c : Int)) = true
  simp
theorem NthR_fits {ps : List (List AV)} {c n h : Nat} {x : Int} {row : List Nat} (hps : okPs ps) (h1 : NthR ps c n h x row) : cnt ps c n h ≤ 1000000000000000 → fitsL ps (c : Int) (n : Int) (h : Int) (rowI row) = true ∧ rankL ps c n h (rowI row) = x := by
  induction h1 with
  | nil => exact fun _ => ⟨fitsL_nil ps c, rfl⟩
  | cons h0 hi ha hb hr ih =>
    intro hs
    obtain ⟨⟨hl, hw⟩, _, _, h4⟩ := sm_fits hps h0 hi hs ha hb
    obtain ⟨i1, i2⟩ := ih h4
    refine ⟨fitsL_mk hps hi hl hw i1, ?_⟩
    show sm ps c _ _ ((_ : Nat) : Int).toNat + rankL ps c _ _ (rowI _) = _
    rw [Int.toNat_natCast, i2]
    omega
def longL (ps : List (List AV)) : List Int → Int
  | [] => 0
  | k :: ks => (wd ps k.toNat : Int) + longL ps ks
theorem fitsL_long {ps : List (List AV)} {c : Nat} (hps : okPs ps) : ∀ {ks : List Int} {n h : Nat}, fitsL ps (c : Int) (n : Int) (h : Int) ks = true → longL ps ks = (n : Int) ∧ (ks.length : Int) ≤ n
  | [], n, h, hf => by
    have hf : ((n : Int) == 0 && (h : Int) == (c : Int)) = true := hf
    rw [Bool.and_eq_true, beq_iff_eq] at hf
    refine ⟨?_, ?_⟩
    · show 0 = _; omega
    · simp
  | k :: ks, n, h, hf => by
    obtain ⟨q, rfl, hq, h1, h2, h3, h4⟩ := fitsL_cons hps hf
    obtain ⟨i1, i2⟩ := fitsL_long hps h4
    obtain ⟨p1, p2, p3, p4, p5, p6, p7⟩ := pc_nat hps hq
    refine ⟨?_, ?_⟩
    · show (wd ps ((q : Int)).toNat : Int) + longL ps ks = _
      rw [Int.toNat_natCast, i1]
      omega
    · rw [List.length_cons]
      omega
/-- A sum over what is needed. -/
def sumTo (f : Nat → Int) : Nat → Int
  | 0 => 0
  | k + 1 => sumTo f k + f k
theorem sumTo_add (f g : Nat → Int) : ∀ k, sumTo (fun j => f j + g j) k = sumTo f k + sumTo g k
  | 0 => rfl
  | k + 1 => by
    show sumTo _ k + (f k + g k) = sumTo f k + f k + (sumTo g k + g k)
    rw [sumTo_add f g k]
    omega
theorem sumTo_zero : ∀ k, sumTo (fun _ => 0) k = 0
  | 0 => rfl
  | k + 1 => by
    show sumTo _ k + 0 = 0
    rw [sumTo_zero k]; rfl
theorem sumTo_one (v : Nat → Int) (q : Nat) : ∀ k, sumTo (fun j => if (q : Int) = (j : Int) then v j else 0) k = if q < k then v q else 0
  | 0 => rfl
  | k + 1 => by
    show sumTo _ k + (if (q : Int) = (k : Int) then v k else 0) = _
    rw [sumTo_one v q k]
    rcases Nat.lt_trichotomy q k with h | h | h
    · rw [if_pos h, if_neg (by omega), if_pos (by omega)]; omega
    · subst h
      rw [if_neg (by omega), if_pos rfl, if_pos (by omega)]; omega
    · rw [if_neg (by omega), if_neg (by omega), if_neg (by omega)]; rfl
theorem need_sum {ps : List (List AV)} (v : Nat → Int) : ∀ {ks : List Int}, allK ps ks → sumTo (fun j => cntIn j ks * v j) ps.length = (ks.map fun k => v k.toNat).sum
  | [], _ => by
    have : (fun j : Nat => cntIn j [] * v j) = fun _ => (0 : Int) := by
      funext j
      show 0 * v j = 0
      omega
    rw [this, sumTo_zero]
    rfl
  | k :: ks, h => by
    obtain ⟨q, rfl, hq⟩ := isK_nat (h k (by simp))
    have hi := need_sum v (ks := ks) (fun k' hk' => h k' (by simp [hk']))
    have : (fun j : Nat => cntIn j ((q : Int) :: ks) * v j) = fun j : Nat => (if (q : Int) = (j : Int) then v j else 0) + cntIn j ks * v j := by
      funext j
      rw [cntIn_cons, Int.add_mul]
      congr 1
      split <;> omega
    rw [this, sumTo_add, hi, sumTo_one, if_pos hq]
    simp
theorem longL_sum (ps : List (List AV)) : ∀ ks : List Int, longL ps ks = (ks.map fun k => (wd ps k.toNat : Int)).sum
  | [] => rfl
  | k :: ks => by
    show _ + longL ps ks = _
    rw [longL_sum ps ks]
    simp
theorem ones_sum : ∀ ks : List Int, (ks.map fun _ => (1 : Int)).sum = (ks.length : Int)
  | [] => rfl
  | k :: ks => by
    simp only [List.map_cons, List.sum_cons, ones_sum ks, List.length_cons]
    omega
theorem some_val (ra rb rc x : Int) (ps : List (List AV)) : g39 ra rb rc ps x = true ∧ (w39_1 ra rb rc ps x = false ∨ ∃ n b c : Nat, ra = (n : Int) ∧ rb = (b : Int) ∧ rc = (c : Int) ∧ n ≤ 2000 ∧ b < 10 ∧ c < 10 ∧ Fine ra rb rc ps ∧ w29_0 ra rb rc ps = 0 ∧ cnt ps c n b ≤ 1000000000000000 ∧ g20 ra rb rc ps = true ∧ w20_1 ra rb rc ps = 0 ∧ w20_0 ra rb rc ps = cnt ps c n b ∧ w39_1 ra rb rc ps x = true ∧ 0 ≤ w39_0 ra rb rc ps x ∧ w39_0 ra rb rc ps x < cnt ps c n b) := by
  by_cases h0 : w29_0 ra rb rc ps = 0
  · have hF := fine_of h0
    obtain ⟨n, b, c, rfl, rfl, rfl, hn, hb, hc⟩ := fine_nat hF
    obtain ⟨g1, g2⟩ := ways_nat hF.ps hn hb hc h0
    rcases g2 with ⟨h1, h2, h3⟩ | ⟨hs, h2, h3⟩
    · have hz : ((3 : Int) != 0) = true := by decide
      unfold g39 w39_1 t39
      rw [g1, h2, hz]
      exact ⟨rfl, .inl rfl⟩
    · have hz : ((0 : Int) != 0) = false := by decide
      by_cases h1 : cnt ps c n b < 1
      · unfold g39 w39_1 t39
        rw [g1, h2, h3, hz, decide_eq_true h1]
        exact ⟨rfl, .inl rfl⟩
      · by_cases hx : x < 0
        · unfold g39 w39_1 t39
          rw [g1, h2, h3, hz, decide_eq_false h1, decide_eq_true hx]
          exact ⟨rfl, .inl rfl⟩
        · have d : decide (cnt ps c n b = 0) = false := decide_eq_false (by omega)
          have e : g39 (n : Int) (b : Int) (c : Int) ps x = true ∧ w39_1 (n : Int) (b : Int) (c : Int) ps x = true ∧ w39_0 (n : Int) (b : Int) (c : Int) ps x = x.tmod (cnt ps c n b) := by
            unfold g39 w39_1 w39_0 t39
            rw [g1, h2, h3, hz, decide_eq_false h1, decide_eq_false hx, d]
            exact ⟨rfl, rfl, rfl⟩
          refine ⟨e.1, .inr ⟨n, b, c, rfl, rfl, rfl, hn, hb, hc, hF, h0, hs, g1, h2, h3, e.2.1, ?_, ?_⟩⟩
          · rw [e.2.2]
            exact Int.tmod_nonneg _ (by omega)
          · rw [e.2.2]
            exact Int.tmod_lt_of_pos _ (by omega)
  · obtain ⟨g1, g2⟩ := ways_err h0
    have hz : (w20_1 ra rb rc ps != 0) = true := by simpa using g2
    unfold g39 w39_1 t39
    rw [g1, hz]
    exact ⟨rfl, .inl rfl⟩
theorem rowI_len (row : List Nat) : (rowI row).length = row.length := by simp [rowI]
end Go.Proofs.Ytgifjphinkbcaaa

set_option linter.unusedVariables false
namespace Go.Proofs.Ytgifjphinkbcaaa
open Go Go.Ev
noncomputable def e19 (args : List AV) (rows : List Blk) : Option (Bool × AV × List Blk) := match args, rows with
  | [], [] => some (true, .b true, [])
  | _, _ => none
theorem e19_ok (args : List AV) (rows : List Blk) (pre : Bool) (v : AV) (rows' : List Blk) (h : e19 args rows = some (pre, v, rows')) (hp : pre = true) : Con Try.prog 19 args rows v rows' := by
  unfold e19 at h
  split at h
  · cases h; exact lives_con
  · cases h
-- SPEC 19
end Go.Proofs.Ytgifjphinkbcaaa

set_option maxRecDepth 100000
set_option linter.unusedVariables false
namespace Go.Proofs.Ytgifjphinkbcaaa
open Go Go.Ev
noncomputable def SQ17 : Ev.Spec := insS 45 e45 (insS 40 e40 (insS 39 e39 (insS 34 e34 (insS 19 e19 (insS 18 e18 (S0))))))
theorem SQ17_ok : SpecOK Try.prog SQ17 := insS_ok e45_ok (insS_ok e40_ok (insS_ok e39_ok (insS_ok e34_ok (insS_ok e19_ok (insS_ok e18_ok (S0_ok))))))
def ro17 (t : Nat) : Bool := cond (Nat.beq t 1000035) false (ro 17 t)
end Go.Proofs.Ytgifjphinkbcaaa

set_option maxRecDepth 100000
set_option maxHeartbeats 0
set_option linter.unusedVariables false
namespace Go.Proofs.Ytgifjphinkbcaaa
open Go Go.Ev

/-! ### RidgeSawn -/
noncomputable def c17 : Code := match Try.f17.body with | some c => c | _ => .skip
noncomputable def lp17a : Code := loopAt c17 [true, true, true, true, true, true, true, true, true, false, true, false]
noncomputable def s17a (ra : Int) (rb : Int) (rc : Int) (ps : List (List AV)) (t8 : Bool) (t11 : List (List AV)) (t12 : Int) (t13 : List (List AV)) (t16 : Int) (m58_0 : Int) (m58_1 : Int) (m58_2 : List (List AV)) : St :=
  { t := [(4, .rp [.int .i64, .int .i64, .int .i64, .sl 31] [.i .i64 ra, .i .i64 rb, .i .i64 rc, .rs 31 ps] 0), (8, .b t8), (11, .rs 3 t11), (12, .i .i64 t12), (13, .rs 3 t13), (15, .p 58 0 0), (16, .i .i64 t16), (1005802, .u)], m := [(59, .fr 64), (0, .dead), (1, .dead), (2, .dead), (3, .dead), (4, .dead), (5, .dead), (6, .dead), (7, .dead), (8, .dead), (9, .dead), (10, .dead), (11, .dead), (12, .dead), (13, .dead), (14, .dead), (15, .dead), (16, .dead), (17, .dead), (18, .dead), (19, .dead), (20, .dead), (21, .dead), (22, .dead), (23, .dead), (24, .dead), (25, .dead), (26, .dead), (27, .dead), (28, .dead), (29, .dead), (30, .dead), (31, .dead), (32, .dead), (33, .dead), (34, .dead), (35, .dead), (36, .dead), (37, .dead), (38, .dead), (39, .dead), (40, .dead), (41, .dead), (42, .dead), (43, .dead), (44, .dead), (45, .dead), (46, .dead), (47, .dead), (48, .dead), (49, .dead), (50, .dead), (51, .dead), (52, .dead), (53, .dead), (54, .dead), (55, .dead), (56, .dead), (57, .dead), (58, .lrow 35 [[.i .i64 m58_0, .i .i64 m58_1, .gv 59 64 m58_2]])], nx := 60, nt := 137 }
structure S17a where
  t16 : Int
  m58_2 : List (List AV)
inductive T17a where
  | x0 (t16 : Int) (m58_2 : List (List AV))
noncomputable def stp17a (ra : Int) (rb : Int) (rc : Int) (ps : List (List AV)) (t8 : Bool) (t11 : List (List AV)) (t12 : Int) (t13 : List (List AV)) (m58_0 : Int) (m58_1 : Int) (t16 : Int) (m58_2 : List (List AV)) : Lp S17a T17a :=
  cond (decide (t16 < (↑t13.length : Int))) (cond (inb t16 ps.length) (cond (inb t16 t13.length) (cond ((m58_2.length + [[AV.i IntKind.i64 (fI (ps.getD t16.toNat []) 1), AV.i IntKind.i64 (fI (t13.getD t16.toNat []) 0)]].length).ble 9223372036854775807 && true) (cond (((m58_2.length + [[AV.i IntKind.i64 (fI (ps.getD t16.toNat []) 1), AV.i IntKind.i64 (fI (t13.getD t16.toNat []) 0)]].length) * 16).ble 140737488355328) (.go ⟨IntKind.i64.wrap (t16 + 1), m58_2 ++ [[AV.i IntKind.i64 (fI (ps.getD t16.toNat []) 1), AV.i IntKind.i64 (fI (t13.getD t16.toNat []) 0)]]⟩) (.bad)) (.bad)) (.bad)) (.bad)) (.out (.x0 t16 m58_2))
noncomputable def o17a_0 (ra : Int) (rb : Int) (rc : Int) (ps : List (List AV)) (t8 : Bool) (t11 : List (List AV)) (t12 : Int) (t13 : List (List AV)) (m58_0 : Int) (m58_1 : Int) (t16 : Int) (m58_2 : List (List AV)) : St :=
  { t := [(4, .rp [.int .i64, .int .i64, .int .i64, .sl 31] [.i .i64 ra, .i .i64 rb, .i .i64 rc, .rs 31 ps] 0), (8, .b t8), (11, .rs 3 t11), (12, .i .i64 t12), (13, .rs 3 t13), (15, .p 58 0 0), (16, .i .i64 t16), (1005802, .u)], m := [(59, .fr 64), (0, .dead), (1, .dead), (2, .dead), (3, .dead), (4, .dead), (5, .dead), (6, .dead), (7, .dead), (8, .dead), (9, .dead), (10, .dead), (11, .dead), (12, .dead), (13, .dead), (14, .dead), (15, .dead), (16, .dead), (17, .dead), (18, .dead), (19, .dead), (20, .dead), (21, .dead), (22, .dead), (23, .dead), (24, .dead), (25, .dead), (26, .dead), (27, .dead), (28, .dead), (29, .dead), (30, .dead), (31, .dead), (32, .dead), (33, .dead), (34, .dead), (35, .dead), (36, .dead), (37, .dead), (38, .dead), (39, .dead), (40, .dead), (41, .dead), (42, .dead), (43, .dead), (44, .dead), (45, .dead), (46, .dead), (47, .dead), (48, .dead), (49, .dead), (50, .dead), (51, .dead), (52, .dead), (53, .dead), (54, .dead), (55, .dead), (56, .dead), (57, .dead), (58, .lrow 35 [[.i .i64 m58_0, .i .i64 m58_1, .gv 59 64 m58_2]])], nx := 60, nt := 137 }
noncomputable def ou17a (ra : Int) (rb : Int) (rc : Int) (ps : List (List AV)) (t8 : Bool) (t11 : List (List AV)) (t12 : Int) (t13 : List (List AV)) (m58_0 : Int) (m58_1 : Int) : T17a → Ex × St
  | .x0 t16 m58_2 => (.ext 0, o17a_0 ra rb rc ps t8 t11 t12 t13 m58_0 m58_1 t16 m58_2)
noncomputable def r17a (ra : Int) (rb : Int) (rc : Int) (ps : List (List AV)) (t8 : Bool) (t11 : List (List AV)) (t12 : Int) (t13 : List (List AV)) (m58_0 : Int) (m58_1 : Int) (t16 : Int) (m58_2 : List (List AV)) : Option T17a := run (fun x => stp17a ra rb rc ps t8 t11 t12 t13 m58_0 m58_1 x.t16 x.m58_2) (⟨t16, m58_2⟩ : S17a)
noncomputable def i17a_0 (ra : Int) (rb : Int) (rc : Int) (ps : List (List AV)) (t8 : Bool) (t11 : List (List AV)) (t12 : Int) (t13 : List (List AV)) (m58_0 : Int) (m58_1 : Int) (t16 : Int) (m58_2 : List (List AV)) : Bool := match r17a ra rb rc ps t8 t11 t12 t13 m58_0 m58_1 t16 m58_2 with
  | some (.x0 _ _) => true
  | _ => false
noncomputable def v17a_0_t16 (ra : Int) (rb : Int) (rc : Int) (ps : List (List AV)) (t8 : Bool) (t11 : List (List AV)) (t12 : Int) (t13 : List (List AV)) (m58_0 : Int) (m58_1 : Int) (t16 : Int) (m58_2 : List (List AV)) : Int := match r17a ra rb rc ps t8 t11 t12 t13 m58_0 m58_1 t16 m58_2 with
  | some (.x0 t16 _) => t16
  | _ => default
noncomputable def v17a_0_m58_2 (ra : Int) (rb : Int) (rc : Int) (ps : List (List AV)) (t8 : Bool) (t11 : List (List AV)) (t12 : Int) (t13 : List (List AV)) (m58_0 : Int) (m58_1 : Int) (t16 : Int) (m58_2 : List (List AV)) : List (List AV) := match r17a ra rb rc ps t8 t11 t12 t13 m58_0 m58_1 t16 m58_2 with
  | some (.x0 _ m58_2) => m58_2
  | _ => default
noncomputable def l17a (st : St) : Option (List (Bool × Ex × St)) := match normW Try.prog [(4, none), (8, none), (11, none), (12, none), (13, none), (15, none), (16, none), (1005802, some 64)] 59 st with
  | some ([.rp [.int .i64, .int .i64, .int .i64, .sl 31] [.i .i64 ra, .i .i64 rb, .i .i64 rc, .rs 31 ps] 0, .b t8, .rs 3 t11, .i .i64 t12, .rs 3 t13, .p 58 0 0, .i .i64 t16, .u], (59, .fr 64) :: (0, .dead) :: (1, .dead) :: (2, .dead) :: (3, .dead) :: (4, .dead) :: (5, .dead) :: (6, .dead) :: (7, .dead) :: (8, .dead) :: (9, .dead) :: (10, .dead) :: (11, .dead) :: (12, .dead) :: (13, .dead) :: (14, .dead) :: (15, .dead) :: (16, .dead) :: (17, .dead) :: (18, .dead) :: (19, .dead) :: (20, .dead) :: (21, .dead) :: (22, .dead) :: (23, .dead) :: (24, .dead) :: (25, .dead) :: (26, .dead) :: (27, .dead) :: (28, .dead) :: (29, .dead) :: (30, .dead) :: (31, .dead) :: (32, .dead) :: (33, .dead) :: (34, .dead) :: (35, .dead) :: (36, .dead) :: (37, .dead) :: (38, .dead) :: (39, .dead) :: (40, .dead) :: (41, .dead) :: (42, .dead) :: (43, .dead) :: (44, .dead) :: (45, .dead) :: (46, .dead) :: (47, .dead) :: (48, .dead) :: (49, .dead) :: (50, .dead) :: (51, .dead) :: (52, .dead) :: (53, .dead) :: (54, .dead) :: (55, .dead) :: (56, .dead) :: (57, .dead) :: (58, .lrow 35 [[.i .i64 m58_0, .i .i64 m58_1, .gv 59 64 m58_2]]) :: [], 60, 137) => some [(i17a_0 ra rb rc ps t8 t11 t12 t13 m58_0 m58_1 t16 m58_2, .ext 0, o17a_0 ra rb rc ps t8 t11 t12 t13 m58_0 m58_1 (v17a_0_t16 ra rb rc ps t8 t11 t12 t13 m58_0 m58_1 t16 m58_2) (v17a_0_m58_2 ra rb rc ps t8 t11 t12 t13 m58_0 m58_1 t16 m58_2))]
  | _ => none
noncomputable def L17 : LSpec := fun p st => match p with
  | [false, true, false, true, true, true, true, true, true, true, true, true] => l17a st
  | _ => none
theorem is17a_0 (ra : Int) (rb : Int) (rc : Int) (ps : List (List AV)) (t8 : Bool) (t11 : List (List AV)) (t12 : Int) (t13 : List (List AV)) (m58_0 : Int) (m58_1 : Int) (t16 : Int) (m58_2 : List (List AV)) (h : i17a_0 ra rb rc ps t8 t11 t12 t13 m58_0 m58_1 t16 m58_2 = true) : r17a ra rb rc ps t8 t11 t12 t13 m58_0 m58_1 t16 m58_2 = some (.x0 (v17a_0_t16 ra rb rc ps t8 t11 t12 t13 m58_0 m58_1 t16 m58_2) (v17a_0_m58_2 ra rb rc ps t8 t11 t12 t13 m58_0 m58_1 t16 m58_2)) := by
  unfold i17a_0 at h
  unfold v17a_0_t16 v17a_0_m58_2
  generalize r17a ra rb rc ps t8 t11 t12 t13 m58_0 m58_1 t16 m58_2 = r at h ⊢
  rcases r with _ | y
  · cases h
  · cases y <;> first | rfl | cases h
theorem round17a (ra : Int) (rb : Int) (rc : Int) (ps : List (List AV)) (t8 : Bool) (t11 : List (List AV)) (t12 : Int) (t13 : List (List AV)) (t16 : Int) (m58_0 : Int) (m58_1 : Int) (m58_2 : List (List AV)) : round Try.prog SQ17 ro17 L17 lp17a [false, true, false, true, true, true, true, true, true, true, true, true] [(4, none), (8, none), (11, none), (12, none), (13, none), (15, none), (16, none), (1005802, some 64)] 59 (s17a ra rb rc ps t8 t11 t12 t13 t16 m58_0 m58_1 m58_2) =
    cond (decide (t16 < (↑t13.length : Int))) (cond (inb t16 ps.length) (cond (inb t16 t13.length) (cond ((m58_2.length + [[AV.i IntKind.i64 (fI (ps.getD t16.toNat []) 1), AV.i IntKind.i64 (fI (t13.getD t16.toNat []) 0)]].length).ble 9223372036854775807 && true) (cond (((m58_2.length + [[AV.i IntKind.i64 (fI (ps.getD t16.toNat []) 1), AV.i IntKind.i64 (fI (t13.getD t16.toNat []) 0)]].length) * 16).ble 140737488355328) (some (.nrm, s17a ra rb rc ps t8 t11 t12 t13 (IntKind.i64.wrap (t16 + 1)) m58_0 m58_1 (m58_2 ++ [[AV.i IntKind.i64 (fI (ps.getD t16.toNat []) 1), AV.i IntKind.i64 (fI (t13.getD t16.toNat []) 0)]]))) (none)) (none)) (none)) (none)) (some (.ext 0, o17a_0 ra rb rc ps t8 t11 t12 t13 m58_0 m58_1 t16 m58_2)) := by kernel_rfl
theorem rnd17a (ra : Int) (rb : Int) (rc : Int) (ps : List (List AV)) (t8 : Bool) (t11 : List (List AV)) (t12 : Int) (t13 : List (List AV)) (m58_0 : Int) (m58_1 : Int) (x : S17a) : round Try.prog SQ17 ro17 L17 lp17a [false, true, false, true, true, true, true, true, true, true, true, true] [(4, none), (8, none), (11, none), (12, none), (13, none), (15, none), (16, none), (1005802, some 64)] 59 ((fun x => s17a ra rb rc ps t8 t11 t12 t13 x.t16 m58_0 m58_1 x.m58_2) x) = toR (fun x => s17a ra rb rc ps t8 t11 t12 t13 x.t16 m58_0 m58_1 x.m58_2) (ou17a ra rb rc ps t8 t11 t12 t13 m58_0 m58_1) (stp17a ra rb rc ps t8 t11 t12 t13 m58_0 m58_1 x.t16 x.m58_2) := by
  refine (round17a _ _ _ _ _ _ _ _ _ _ _ _ ).trans ?_
  unfold stp17a
  simp only [toR_cond]
  rfl
theorem lok17a {st : St} {outs : List (Bool × Ex × St)} {e : Ex} {s : St} (hl : l17a st = some outs) (hch : Chosen outs e s) :
    ∃ keep nb, 0 ≤ nb ∧ LB Try.prog SQ17 ro17 L17 lp17a [false, true, false, true, true, true, true, true, true, true, true, true] keep nb st e s := by
  unfold l17a at hl
  split at hl
  · rename_i ra rb rc ps t8 t11 t12 t13 t16 m58_0 m58_1 m58_2 hno
    cases hl
    have hno := normW_norm hno
    refine ⟨_, _, ?_, .enter hno ?_⟩
    · decide
    have main := fun y h => LB_run (x := (⟨t16, m58_2⟩ : S17a)) (y := y) (nb := 59) (fun y => by cases y <;> simp [ou17a]) (rnd17a ra rb rc ps t8 t11 t12 t13 m58_0 m58_1) h
    obtain ⟨x, hx, hg, rfl, rfl⟩ := chosen_any hch
    simp only [List.mem_cons, List.not_mem_nil, or_false] at hx
    subst hx
    exact main _ (is17a_0 ra rb rc ps t8 t11 t12 t13 m58_0 m58_1 t16 m58_2 hg)
  · cases hl
theorem L17_ok (q : Pl) (c : Code) (hq : locate c17 q.reverse = some (.loop c)) (st : St) (outs : List (Bool × Ex × St)) (e : Ex) (s : St) (hl : L17 q st = some outs) (hch : Chosen outs e s) :
    ∃ keep nb, 0 ≤ nb ∧ LB Try.prog SQ17 ro17 L17 c q keep nb st e s := by
  unfold L17 at hl
  split at hl
  · have : locate c17 ([false, true, false, true, true, true, true, true, true, true, true, true] : Pl).reverse = some (.loop lp17a) := by kernel_rfl
    rw [this] at hq
    cases hq
    exact lok17a hl hch
  · cases hl
theorem lok17 : LOK Try.prog SQ17 ro17 L17 0 false c17 [] :=
  lok_lo L17_ok c17 [] false (locate_nil _) (by kernel_rfl)
noncomputable def t17 (ra rb rc : Int) (ps : List (List AV)) (x y z : Int) : Tr ((Bool)) :=
  .cn (g18 ra rb rc ps) (.cn (w18_0 ra rb rc ps) (.lf (true)) (.cn (decide ((↑ps.length : Int) > 8)) (.lf (true)) (.cn (g39 ra rb rc ps x) (.cn (!w39_1 ra rb rc ps x) (.lf (true)) (.cn (g40 ra rb rc ps (w39_0 ra rb rc ps x)) (.cn (g34 ra rb rc ps (w40_0 ra rb rc ps (w39_0 ra rb rc ps x))) (.cn (w40_1 ra rb rc ps (w39_0 ra rb rc ps x) != 0) (.lf (false)) (.cn (w34_1 ra rb rc ps (w40_0 ra rb rc ps (w39_0 ra rb rc ps x)) != 0) (.lf (false)) (.cn ((↑(w34_0 ra rb rc ps (w40_0 ra rb rc ps (w39_0 ra rb rc ps x))).length : Int) != (↑ps.length : Int)) (.lf (false)) (.cn (decide ((↑(w40_0 ra rb rc ps (w39_0 ra rb rc ps x)).length : Int) > 9)) (.lf (true)) (.cn (i17a_0 ra rb rc ps false (w40_0 ra rb rc ps (w39_0 ra rb rc ps x)) (w40_1 ra rb rc ps (w39_0 ra rb rc ps x)) (w34_0 ra rb rc ps (w40_0 ra rb rc ps (w39_0 ra rb rc ps x))) (IntKind.i64.wrap y) (IntKind.i64.wrap z) 0 []) (.cn (g45 (IntKind.i64.wrap y) (IntKind.i64.wrap z) (v17a_0_m58_2 ra rb rc ps false (w40_0 ra rb rc ps (w39_0 ra rb rc ps x)) (w40_1 ra rb rc ps (w39_0 ra rb rc ps x)) (w34_0 ra rb rc ps (w40_0 ra rb rc ps (w39_0 ra rb rc ps x))) (IntKind.i64.wrap y) (IntKind.i64.wrap z) 0 [])) (.cn (w45_1 (IntKind.i64.wrap y) (IntKind.i64.wrap z) (v17a_0_m58_2 ra rb rc ps false (w40_0 ra rb rc ps (w39_0 ra rb rc ps x)) (w40_1 ra rb rc ps (w39_0 ra rb rc ps x)) (w34_0 ra rb rc ps (w40_0 ra rb rc ps (w39_0 ra rb rc ps x))) (IntKind.i64.wrap y) (IntKind.i64.wrap z) 0 []) == 0) (.cn (decide ((↑(w45_0 (IntKind.i64.wrap y) (IntKind.i64.wrap z) (v17a_0_m58_2 ra rb rc ps false (w40_0 ra rb rc ps (w39_0 ra rb rc ps x)) (w40_1 ra rb rc ps (w39_0 ra rb rc ps x)) (w34_0 ra rb rc ps (w40_0 ra rb rc ps (w39_0 ra rb rc ps x))) (IntKind.i64.wrap y) (IntKind.i64.wrap z) 0 [])).length : Int) > (↑(w40_0 ra rb rc ps (w39_0 ra rb rc ps x)).length : Int))) (.lf (false)) (.cn (decide (IntKind.i64.wrap ((↑(w45_0 (IntKind.i64.wrap y) (IntKind.i64.wrap z) (v17a_0_m58_2 ra rb rc ps false (w40_0 ra rb rc ps (w39_0 ra rb rc ps x)) (w40_1 ra rb rc ps (w39_0 ra rb rc ps x)) (w34_0 ra rb rc ps (w40_0 ra rb rc ps (w39_0 ra rb rc ps x))) (IntKind.i64.wrap y) (IntKind.i64.wrap z) 0 [])).length : Int) * IntKind.i64.wrap y) < ra)) (.lf (false)) (.cn (g45 2000 0 (v17a_0_m58_2 ra rb rc ps false (w40_0 ra rb rc ps (w39_0 ra rb rc ps x)) (w40_1 ra rb rc ps (w39_0 ra rb rc ps x)) (w34_0 ra rb rc ps (w40_0 ra rb rc ps (w39_0 ra rb rc ps x))) (IntKind.i64.wrap y) (IntKind.i64.wrap z) 0 [])) (.cn (w45_1 2000 0 (v17a_0_m58_2 ra rb rc ps false (w40_0 ra rb rc ps (w39_0 ra rb rc ps x)) (w40_1 ra rb rc ps (w39_0 ra rb rc ps x)) (w34_0 ra rb rc ps (w40_0 ra rb rc ps (w39_0 ra rb rc ps x))) (IntKind.i64.wrap y) (IntKind.i64.wrap z) 0 []) == 0) (.cn ((↑(w45_0 2000 0 (v17a_0_m58_2 ra rb rc ps false (w40_0 ra rb rc ps (w39_0 ra rb rc ps x)) (w40_1 ra rb rc ps (w39_0 ra rb rc ps x)) (w34_0 ra rb rc ps (w40_0 ra rb rc ps (w39_0 ra rb rc ps x))) (IntKind.i64.wrap y) (IntKind.i64.wrap z) 0 [])).length : Int) == bmin 1 (↑(w40_0 ra rb rc ps (w39_0 ra rb rc ps x)).length : Int)) (.lf (true)) (.lf (false))) (.lf (false))) (.nn)))) (.cn (g45 2000 0 (v17a_0_m58_2 ra rb rc ps false (w40_0 ra rb rc ps (w39_0 ra rb rc ps x)) (w40_1 ra rb rc ps (w39_0 ra rb rc ps x)) (w34_0 ra rb rc ps (w40_0 ra rb rc ps (w39_0 ra rb rc ps x))) (IntKind.i64.wrap y) (IntKind.i64.wrap z) 0 [])) (.cn (w45_1 2000 0 (v17a_0_m58_2 ra rb rc ps false (w40_0 ra rb rc ps (w39_0 ra rb rc ps x)) (w40_1 ra rb rc ps (w39_0 ra rb rc ps x)) (w34_0 ra rb rc ps (w40_0 ra rb rc ps (w39_0 ra rb rc ps x))) (IntKind.i64.wrap y) (IntKind.i64.wrap z) 0 []) == 0) (.cn ((↑(w45_0 2000 0 (v17a_0_m58_2 ra rb rc ps false (w40_0 ra rb rc ps (w39_0 ra rb rc ps x)) (w40_1 ra rb rc ps (w39_0 ra rb rc ps x)) (w34_0 ra rb rc ps (w40_0 ra rb rc ps (w39_0 ra rb rc ps x))) (IntKind.i64.wrap y) (IntKind.i64.wrap z) 0 [])).length : Int) == bmin 1 (↑(w40_0 ra rb rc ps (w39_0 ra rb rc ps x)).length : Int)) (.lf (true)) (.lf (false))) (.lf (false))) (.nn))) (.nn)) (.nn)))))) (.nn)) (.nn))) (.nn)))) (.nn)
noncomputable def g17 (ra rb rc : Int) (ps : List (List AV)) (x y z : Int) : Bool := (t17 ra rb rc ps x y z).g
noncomputable def w17_0 (ra rb rc : Int) (ps : List (List AV)) (x y z : Int) : Bool := (t17 ra rb rc ps x y z).val
theorem eq17 (ra rb rc : Int) (ps : List (List AV)) (x y z : Int) : evF Try.prog SQ17 ro17 L17 Try.f17 [.agg [.i .i64 ra, .i .i64 rb, .i .i64 rc, .rs 31 ps], .i .i64 x, .i .u16 y, .i .u8 z] = (t17 ra rb rc ps x y z).opt (fun (x : (Bool)) => (.b x : AV)) := by kernel_rfl
theorem con17 (ra rb rc : Int) (ps : List (List AV)) (x y z : Int) (h : g17 ra rb rc ps x y z = true) : Con Try.prog 17 [.agg [.i .i64 ra, .i .i64 rb, .i .i64 rc, .rs 31 ps], .i .i64 x, .i .u16 y, .i .u8 z] [] (.b (w17_0 ra rb rc ps x y z)) [] :=
  con_of SQ17_ok mixed Try.func17 (c := c17) rfl (names 17 _ Try.func17) lok17 ((eq17 ra rb rc ps x y z).trans (Tr.sound _ _ h))
noncomputable def e17 (args : List AV) (rows : List Blk) : Option (Bool × AV × List Blk) := match args, rows with
  | [.agg [.i .i64 ra, .i .i64 rb, .i .i64 rc, .rs 31 ps], .i .i64 x, .i .u16 y, .i .u8 z], [] => some (g17 ra rb rc ps x y z, .b (w17_0 ra rb rc ps x y z), [])
  | _, _ => none
theorem e17_ok (args : List AV) (rows : List Blk) (pre : Bool) (v : AV) (rows' : List Blk) (h : e17 args rows = some (pre, v, rows')) (hp : pre = true) : Con Try.prog 17 args rows v rows' := by
  unfold e17 at h
  split at h
  · cases h; exact con17 _ _ _ _ _ _ _ hp
  · cases h
-- SPEC 17
end Go.Proofs.Ytgifjphinkbcaaa

set_option maxRecDepth 100000
set_option linter.unusedVariables false
namespace Go.Proofs.Ytgifjphinkbcaaa
open Go Go.Ev
/-! ### RidgeSawn -/
section
variable {da db : Int} {cs : List (List AV)}
/-- How long so many of each kind are together. -/
def LL (cs : List (List AV)) (f : Nat → Int) : Nat → Int
  | 0 => 0
  | n + 1 => LL cs f n + f n * ln cs n
theorem LL_DD (db : Int) (cs : List (List AV)) (f : Nat → Int) : ∀ n, DD db cs f n = LL cs f n + TT f n * db
  | 0 => by show (0 : Int) = 0 + 0 * db; omega
  | n + 1 => by
    show DD db cs f n + f n * (ln cs n + db) = LL cs f n + f n * ln cs n + (TT f n + f n) * db
    rw [LL_DD db cs f n, Int.mul_add, Int.add_mul]
    omega
theorem LL_sub (cs : List (List AV)) (q p : Nat → Int) : ∀ n, LL cs (fun i => q i - p i) n = LL cs q n - LL cs p n
  | 0 => rfl
  | n + 1 => by
    show LL cs _ n + (q n - p n) * ln cs n = LL cs q n + q n * ln cs n - (LL cs p n + p n * ln cs n)
    rw [LL_sub cs q p n, Int.sub_mul]
    omega
theorem LL_zero {f : Nat → Int} : ∀ {n : Nat}, (∀ i, i < n → f i = 0) → LL cs f n = 0
  | 0, _ => rfl
  | n + 1, h => by
    show LL cs f n + f n * _ = 0
    rw [LL_zero (n := n) fun i hi => h i (by omega), h n (by omega), Int.zero_mul]; rfl
theorem Cov.long (hF : RFine da db cs) {k : Nat} {q : Nat → Int} (h : Cov da db cs k q) : LL cs q cs.length ≤ (k : Int) * da := by
  have ha := hF.a
  have hb := hF.b
  induction h with
  | nil h => rw [LL_zero h]; omega
  | @cons k q p h1 h2 h3 ih =>
    rw [LL_sub] at ih
    have hp : LL cs p cs.length ≤ da := by
      have hT := TT_nn (q := p) (n := cs.length) fun i hi => (h1 i hi).1
      rcases Int.lt_or_le 0 (TT p cs.length) with h | h
      · rw [LL_DD] at h2
        have : 1 * db ≤ TT p cs.length * db := Int.mul_le_mul_of_nonneg_right (by omega) (by omega)
        omega
      · have hz : ∀ i, i < cs.length → p i = 0 := fun i hi => by
          have := hT.2 i hi
          have := (h1 i hi).1
          omega
        rw [LL_zero hz]
        omega
    rw [Int.natCast_succ, Int.add_mul, Int.one_mul]
    omega
end
theorem TT_sumTo (f : Nat → Int) : ∀ n, TT f n = sumTo f n
  | 0 => rfl
  | n + 1 => by show TT f n + f n = sumTo f n + f n; rw [TT_sumTo f n]
/-- The cuts of a row's pieces. -/
def sawC (ps : List (List AV)) (ks : List Int) (n : Nat) : List (List AV) := (List.range n).map fun j => [.i .i64 (wd ps j : Int), .i .i64 (cntIn j ks)]
theorem sawC_len (ps : List (List AV)) (ks : List Int) (n : Nat) : (sawC ps ks n).length = n := by simp [sawC]
theorem sawC_succ (ps : List (List AV)) (ks : List Int) (n : Nat) : sawC ps ks n ++ [[.i .i64 (wd ps n : Int), .i .i64 (cntIn n ks)]] = sawC ps ks (n + 1) := by
  unfold sawC
  rw [List.range_succ, List.map_append]; rfl
theorem sawC_get {ps : List (List AV)} {ks : List Int} {n j : Nat} (h : j < n) : (sawC ps ks n).getD j [] = [.i .i64 (wd ps j : Int), .i .i64 (cntIn j ks)] := by
  simp [sawC, List.getD_eq_getElem?_getD, h]
theorem saw_run {ra rb rc : Int} {ps T11 : List (List AV)} {ks : List Int} {t12 y z : Int} (hps : okPs ps) :
    ∃ a, r17a ra rb rc ps false T11 t12 (needL ps ks) y z 0 [] = some (.x0 a (sawC ps ks ps.length)) := by
  have hl := hps.1
  have hn : (needL ps ks).length = ps.length := ones_len _ _
  have run := run_for (S := Unit) (step := fun x : S17a => stp17a ra rb rc ps false T11 t12 (needL ps ks) y z x.t16 x.m58_2) ps.length (fun k _ => (⟨(k : Int), sawC ps ks k⟩ : S17a)) (fun _ _ => True) (fun _ _ (y : T17a) => ∃ a, y = .x0 a (sawC ps ks ps.length))
    (fun k _ hk _ => by
      left
      refine ⟨(), ?_, trivial, fun y hy => hy⟩
      obtain ⟨p1, p2, p3, p4, p5, p6, p7⟩ := pc_nat hps hk
      have e : fI ((needL ps ks).getD k []) 0 = cntIn k ks := by
        unfold needL
        rw [ones_get hk]; rfl
      have l1 : ∀ z : List AV, ((sawC ps ks k).length + [z].length).ble 9223372036854775807 = true := fun z => by
        rw [sawC_len, Nat.ble_eq]; show k + 1 ≤ _; omega
      have l2 : ∀ z : List AV, (((sawC ps ks k).length + [z].length) * 16).ble 140737488355328 = true := fun z => by
        rw [sawC_len, Nat.ble_eq]; show (k + 1) * 16 ≤ _; omega
      unfold stp17a
      dsimp only
      rw [hn, lt_true hk, inb_true hk, Int.toNat_natCast, p1, e, l1, l2, sawC_succ, wrap_succ (by omega)]
      rfl)
    (fun _ _ => by
      refine ⟨.x0 (ps.length : Int) (sawC ps ks ps.length), ?_, _, rfl⟩
      unfold stp17a
      dsimp only
      rw [hn, lt_false]
      rfl)
    0 () (by omega) trivial
  obtain ⟨y, h1, a, h2⟩ := run
  exact ⟨a, by rw [← h2]; exact h1⟩
theorem sawn_law (ra rb rc : Int) (ps : List (List AV)) (x : Int) {y z : Int} (hy : 0 ≤ y ∧ y ≤ 65535) (hz : 0 ≤ z ∧ z ≤ 255) : g17 ra rb rc ps x y z = true ∧ w17_0 ra rb rc ps x y z = true := by
  obtain ⟨s1, s2⟩ := some_val ra rb rc x ps
  unfold g17 w17_0 t17
  rw [g18_true, s1]
  cases w18_0 ra rb rc ps with
  | true => exact ⟨rfl, rfl⟩
  | false =>
  cases h8 : decide ((ps.length : Int) > 8) with
  | true => exact ⟨rfl, rfl⟩
  | false =>
  have h8 : ps.length ≤ 8 := by have := of_decide_eq_false h8; omega
  rcases s2 with s2 | ⟨n, b, c, rfl, rfl, rfl, hn, hb, hc, hF, h0, hs, v1, v2, v3, s2, s3, s4⟩
  · rw [s2]
    exact ⟨rfl, rfl⟩
  rw [s2]
  generalize w39_0 (n : Int) (b : Int) (c : Int) ps x = k at s3 s4 ⊢
  obtain ⟨row, hr, ⟨a1, a2, a3⟩⟩ := nth_val hF.ps hn hb hc h0 hs ⟨s3, s4⟩
  have hlen := NthR_len hF.ps hr hs
  obtain ⟨q1, q2⟩ := NthR_fits hF.ps hr hs
  rw [a1, a2, a3]
  obtain ⟨n1, n2, n3⟩ := needs_val (ws := rowAV row) hF h0 (by rw [rowAV_len]; omega)
  rw [nums_rowAV, q1] at n2 n3
  rw [if_pos rfl] at n2 n3
  have e0 : ((0 : Int) != 0) = false := by decide
  have e5 : (((needL ps (rowI row)).length : Int) != (ps.length : Int)) = false := by
    unfold needL
    rw [ones_len]
    simp
  have hall := fitsL_all q1
  have t1 : sumTo (fun j => cntIn j (rowI row) * (wd ps j : Int)) ps.length = (n : Int) := by
    rw [need_sum (fun j => (wd ps j : Int)) hall, ← longL_sum]
    exact (fitsL_long hF.ps q1).1
  have t2 : sumTo (fun j => cntIn j (rowI row)) ps.length = (row.length : Int) := by
    have := need_sum (fun _ => 1) hall
    simp only [Int.mul_one] at this
    rw [this, ones_sum, rowI_len]
  rw [n1, n2, n3, e0, e5, rowAV_len]
  cases h9 : decide ((row.length : Int) > 9) with
  | true => exact ⟨rfl, rfl⟩
  | false =>
  have h9 : row.length ≤ 9 := by have := of_decide_eq_false h9; omega
  have ey : IntKind.i64.wrap y = y := wrap64 (by omega) (by omega)
  have ez : IntKind.i64.wrap z = z := wrap64 (by omega) (by omega)
  rw [ey, ez]
  obtain ⟨a, hrun⟩ := saw_run (ra := (n : Int)) (rb := (b : Int)) (rc := (c : Int)) (T11 := rowAV row) (ks := rowI row) (t12 := 0) (y := y) (z := z) hF.ps
  unfold i17a_0 v17a_0_m58_2
  rw [hrun]
  dsimp only
  -- the cuts
  have hks : ∀ j, 0 ≤ cntIn j (rowI row) ∧ cntIn j (rowI row) ≤ 9 := fun j => by
    have := cntIn_le j (rowI row)
    rw [rowI_len] at this
    omega
  have hcl : (sawC ps (rowI row) ps.length).length = ps.length := sawC_len _ _ _
  have hln : ∀ j, j < ps.length → ln (sawC ps (rowI row) ps.length) j = (wd ps j : Int) := fun j hj => by
    unfold ln
    rw [sawC_get hj]; rfl
  have hmn : ∀ j, j < ps.length → mn (sawC ps (rowI row) ps.length) j = cntIn j (rowI row) := fun j hj => by
    unfold mn
    rw [sawC_get hj]; rfl
  generalize sawC ps (rowI row) ps.length = cs at hcl hln hmn ⊢
  have hTT : TT (mn cs) ps.length = (row.length : Int) := by
    rw [TT_congr hmn, TT_sumTo, t2]
  have hLL : LL cs (mn cs) ps.length = (n : Int) := by
    rw [← t1]
    have : ∀ m, m ≤ ps.length → LL cs (mn cs) m = sumTo (fun j => cntIn j (rowI row) * (wd ps j : Int)) m := by
      intro m
      induction m with
      | zero => intro _; rfl
      | succ m ih =>
        intro hm
        show LL cs (mn cs) m + mn cs m * ln cs m = sumTo _ m + cntIn m (rowI row) * (wd ps m : Int)
        rw [ih (by omega), hmn m (by omega), hln m (by omega)]
    exact this _ (Nat.le_refl _)
  have hsm : ∀ m, m ≤ ps.length → smn cs m = TT (mn cs) m := by
    intro m
    induction m with
    | zero => intro _; rfl
    | succ m ih => intro hm; show smn cs m + mn cs m = TT (mn cs) m + mn cs m; rw [ih (by omega)]
  have h0mn : ∀ i, i < cs.length → 0 ≤ mn cs i := fun i hi => by rw [hmn i (by omega)]; exact (hks i).1
  -- the second plan
  have hF2 : RFine 2000 0 cs := by
    refine ⟨by omega, by omega, by omega, fun j hj => ?_, ?_, fun j hj => ?_⟩
    · obtain ⟨p1, p2, p3, p4, p5, p6, p7⟩ := pc_nat hF.ps (k := j) (by omega)
      have := hks j
      unfold okCut
      rw [hln j (by omega), hmn j (by omega)]
      omega
    · rw [hcl, hsm _ (Nat.le_refl _), hTT]; omega
    · obtain ⟨p1, p2, p3, p4, p5, p6, p7⟩ := pc_nat hF.ps (k := j) (by omega)
      rw [hln j (by omega)]
      omega
  have hw2 := fine_ok hF2
  obtain ⟨b1, b2, _, b4⟩ := plan_val 2000 0 cs
  obtain ⟨_, rs2, c1, c2, c3⟩ := b4 hw2
  have hm2 : (mq 2000 0 cs (mn cs) : Int) = bmin 1 (row.length : Int) := by
    rw [bmin_le]
    by_cases hr0 : row.length = 0
    · rw [if_neg (by omega), mq_zero hF2 fun i hi => by
        have := (TT_nn h0mn).2 i hi
        rw [hcl, hTT] at this
        have := h0mn i hi
        omega]
      omega
    · rw [if_pos (by omega)]
      obtain ⟨i, hi, hpos⟩ := TT_first (q := mn cs) (n := ps.length) (by omega)
      have h1 := mq_pos hF2 h0mn (i := i) (by omega) hpos
      have h2 := (mq_ok hF2 h0mn).2.1 1 (.cons (mn cs) (fun i hi => ⟨h0mn i hi, Int.le_refl _⟩) (by rw [LL_DD, hcl, hLL, hTT]; omega) (.nil fun i hi => by omega))
      omega
  have hlen2 : ((w45_0 2000 0 cs).length : Int) = bmin 1 (row.length : Int) := by rw [c3, plAV_len, c1.len, hm2]
  have ebb : ∀ b : Int, (b == b) = true := by simp
  -- the first plan
  obtain ⟨d1, d2, _, d4⟩ := plan_val y z cs
  rw [d1, d2, b1, b2, hw2, hlen2, ebb, ebb]
  by_cases hw1 : w24_0 y z cs = 0
  · obtain ⟨hF1, rs1, f1, f2, f3⟩ := d4 hw1
    have ha := hF1.a
    obtain ⟨m1, m2, m3⟩ := mq_ok hF1 h0mn
    rw [hcl, hTT] at m3
    have hlong := m1.long hF1
    rw [hcl, hLL] at hlong
    have hl1 : ((w45_0 y z cs).length : Int) = (mq y z cs (mn cs) : Int) := by rw [f3, plAV_len, f1.len]
    have hmb : 0 ≤ (mq y z cs (mn cs) : Int) * y := Int.mul_nonneg (by omega) (by omega)
    have hmb2 : (mq y z cs (mn cs) : Int) * y ≤ 9 * 65535 := Int.mul_le_mul (by omega) (by omega) (by omega) (by omega)
    have e7 : (w24_0 y z cs == 0) = true := by rw [hw1]; rfl
    rw [e7, hl1, wrap64 (by omega) (by omega), decide_eq_false (show ¬ ((mq y z cs (mn cs) : Int) > (row.length : Int)) by omega), decide_eq_false (show ¬ ((mq y z cs (mn cs) : Int) * y < (n : Int)) by omega)]
    exact ⟨rfl, rfl⟩
  · have e7 : (w24_0 y z cs == 0) = false := by rw [beq_eq_false_iff_ne]; exact hw1
    rw [e7]
    exact ⟨rfl, rfl⟩
theorem u16_of {a : AV} (h : TyArg Try.prog 62 a) : ∃ x, a = .i .u16 x ∧ 0 ≤ x ∧ x ≤ 65535 := by
  obtain ⟨n, e, n1, n2⟩ := WT_int (ty_one (c := .int .u16) (by kernel_rfl) (by kernel_rfl) h)
  exact ⟨n, e, n1, n2⟩
theorem u8_of {a : AV} (h : TyArg Try.prog 5 a) : ∃ x, a = .i .u8 x ∧ 0 ≤ x ∧ x ≤ 255 := by
  obtain ⟨n, e, n1, n2⟩ := WT_int (ty_one (c := .int .u8) (by kernel_rfl) (by kernel_rfl) h)
  exact ⟨n, e, n1, n2⟩
theorem ridgeSawn_law (avs : List AV) (h : TyArgs Try.prog Try.f17.params.toList avs) : Con Try.prog 17 avs [] (.b true) [] := by
  obtain ⟨a0, r0, rfl, h0, h⟩ := tyArgs_cons h
  obtain ⟨a1, r1, rfl, h1, h⟩ := tyArgs_cons h
  obtain ⟨a2, r2, rfl, h2, h⟩ := tyArgs_cons h
  obtain ⟨a3, r3, rfl, h3, h⟩ := tyArgs_cons h
  obtain rfl := tyArgs_nil h
  obtain ⟨ra, rb, rc, ps, rfl, _⟩ := ridge_of h0
  obtain ⟨x, rfl, _⟩ := int_of h1
  obtain ⟨y, rfl, y1⟩ := u16_of h2
  obtain ⟨z, rfl, z1⟩ := u8_of h3
  obtain ⟨h1, h2⟩ := sawn_law ra rb rc ps x y1 z1
  have := con17 ra rb rc ps x y z h1
  rw [h2] at this
  exact this
end Go.Proofs.Ytgifjphinkbcaaa
