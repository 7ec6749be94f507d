/-
  The law RidgeFibonacci of the roofer's ridges answers true whatever byte it is handed; no conditions.
-/
import Derived.Test.YtgifjphinkbcaaaRa
set_option linter.unusedVariables false
set_option maxRecDepth 100000
set_option linter.unusedVariables false
namespace Go.Proofs.Ytgifjphinkbcaaa
open Go Go.Ev

/-! ### strings.indexFunc -/
noncomputable def c94 : Code := match Try.f94.body with | some c => c | _ => .skip
noncomputable def lp94a : Code := loopAt c94 [true, false, true, false]
noncomputable def s94a (tr : Bool) (t6 : Int) (nm : ByteArray) (m2_1 : Nat) : St :=
  { t := [(1, .fn 85 []), (2, .b tr), (6, .i .i64 t6), (10, .it 2)], m := [(0, .dead), (1, .dead), (2, .si nm m2_1)], nx := 3, nt := 21 }
structure S94a where
  m2_1 : Nat
inductive T94a where
  | x0 (t6' : Int) (m2_1 : Nat)
  | x1 (m2_1 : Nat)
noncomputable def stp94a (tr : Bool) (t6 : Int) (nm : ByteArray) (m2_1 : Nat) : Lp S94a T94a :=
  cond (m2_1.blt nm.size) (cond (g85 (↑(Utf8.decode nm m2_1).fst : Int)) (cond (w85_0 (↑(Utf8.decode nm m2_1).fst : Int) == tr) (.out (.x0 (↑m2_1 : Int) (m2_1 + (Utf8.decode nm m2_1).snd))) (.go ⟨m2_1 + (Utf8.decode nm m2_1).snd⟩)) (.bad)) (.out (.x1 m2_1))
noncomputable def o94a_0 (tr : Bool) (t6 : Int) (nm : ByteArray) (t6' : Int) (m2_1 : Nat) : St :=
  { t := [(1, .fn 85 []), (2, .b tr), (6, .i .i64 t6'), (10, .it 2)], m := [(0, .dead), (1, .dead), (2, .si nm m2_1)], nx := 3, nt := 21 }
noncomputable def o94a_1 (tr : Bool) (t6 : Int) (nm : ByteArray) (m2_1 : Nat) : St :=
  { t := [(1, .fn 85 []), (2, .b tr), (6, .i .i64 t6), (10, .it 2)], m := [(0, .dead), (1, .dead), (2, .si nm m2_1)], nx := 3, nt := 21 }
noncomputable def ou94a (tr : Bool) (t6 : Int) (nm : ByteArray) : T94a → Ex × St
  | .x0 t6' m2_1 => (.ret, o94a_0 tr t6 nm t6' m2_1)
  | .x1 m2_1 => (.ext 0, o94a_1 tr t6 nm m2_1)
noncomputable def r94a (tr : Bool) (t6 : Int) (nm : ByteArray) (m2_1 : Nat) : Option T94a := run (fun x => stp94a tr t6 nm x.m2_1) (⟨m2_1⟩ : S94a)
noncomputable def i94a_0 (tr : Bool) (t6 : Int) (nm : ByteArray) (m2_1 : Nat) : Bool := match r94a tr t6 nm m2_1 with
  | some (.x0 _ _) => true
  | _ => false
noncomputable def v94a_0_t6' (tr : Bool) (t6 : Int) (nm : ByteArray) (m2_1 : Nat) : Int := match r94a tr t6 nm m2_1 with
  | some (.x0 t6' _) => t6'
  | _ => default
noncomputable def v94a_0_m2_1 (tr : Bool) (t6 : Int) (nm : ByteArray) (m2_1 : Nat) : Nat := match r94a tr t6 nm m2_1 with
  | some (.x0 _ m2_1) => m2_1
  | _ => default
noncomputable def i94a_1 (tr : Bool) (t6 : Int) (nm : ByteArray) (m2_1 : Nat) : Bool := match r94a tr t6 nm m2_1 with
  | some (.x1 _) => true
  | _ => false
noncomputable def v94a_1_m2_1 (tr : Bool) (t6 : Int) (nm : ByteArray) (m2_1 : Nat) : Nat := match r94a tr t6 nm m2_1 with
  | some (.x1 m2_1) => m2_1
  | _ => default
noncomputable def l94a (st : St) : Option (List (Bool × Ex × St)) := match normW Try.prog [(1, none), (2, none), (6, none), (10, none)] 3 st with
  | some ([.fn 85 [], .b tr, .i .i64 t6, .it 2], [(0, .dead), (1, .dead), (2, .si nm m2_1)], 3, 21) => some [(i94a_0 tr t6 nm m2_1, .ret, o94a_0 tr t6 nm (v94a_0_t6' tr t6 nm m2_1) (v94a_0_m2_1 tr t6 nm m2_1)), (i94a_1 tr t6 nm m2_1, .ext 0, o94a_1 tr t6 nm (v94a_1_m2_1 tr t6 nm m2_1))]
  | _ => none
noncomputable def L94 : LSpec := fun p st => match p with
  | [false, true, false, true] => l94a st
  | _ => none
theorem is94a_0 (tr : Bool) (t6 : Int) (nm : ByteArray) (m2_1 : Nat) (h : i94a_0 tr t6 nm m2_1 = true) : r94a tr t6 nm m2_1 = some (.x0 (v94a_0_t6' tr t6 nm m2_1) (v94a_0_m2_1 tr t6 nm m2_1)) := by
  unfold i94a_0 at h
  unfold v94a_0_t6' v94a_0_m2_1
  generalize r94a tr t6 nm m2_1 = r at h ⊢
  rcases r with _ | y
  · cases h
  · cases y <;> first | rfl | cases h
theorem is94a_1 (tr : Bool) (t6 : Int) (nm : ByteArray) (m2_1 : Nat) (h : i94a_1 tr t6 nm m2_1 = true) : r94a tr t6 nm m2_1 = some (.x1 (v94a_1_m2_1 tr t6 nm m2_1)) := by
  unfold i94a_1 at h
  unfold v94a_1_m2_1
  generalize r94a tr t6 nm m2_1 = r at h ⊢
  rcases r with _ | y
  · cases h
  · cases y <;> first | rfl | cases h
theorem round94a (tr : Bool) (t6 : Int) (nm : ByteArray) (m2_1 : Nat) : round Try.prog Sa (ro 94) L94 lp94a [false, true, false, true] [(1, none), (2, none), (6, none), (10, none)] 3 (s94a tr t6 nm m2_1) =
    cond (m2_1.blt nm.size) (cond (g85 (↑(Utf8.decode nm m2_1).fst : Int)) (cond (w85_0 (↑(Utf8.decode nm m2_1).fst : Int) == tr) (some (.ret, o94a_0 tr t6 nm (↑m2_1 : Int) (m2_1 + (Utf8.decode nm m2_1).snd))) (some (.nrm, s94a tr t6 nm (m2_1 + (Utf8.decode nm m2_1).snd)))) (none)) (some (.ext 0, o94a_1 tr t6 nm m2_1)) := by kernel_rfl
theorem rnd94a (tr : Bool) (t6 : Int) (nm : ByteArray) (x : S94a) : round Try.prog Sa (ro 94) L94 lp94a [false, true, false, true] [(1, none), (2, none), (6, none), (10, none)] 3 ((fun x => s94a tr t6 nm x.m2_1) x) = toR (fun x => s94a tr t6 nm x.m2_1) (ou94a tr t6 nm) (stp94a tr t6 nm x.m2_1) := by
  refine (round94a _ _ _ _ ).trans ?_
  unfold stp94a
  simp only [toR_cond]
  rfl
theorem lok94a {st : St} {outs : List (Bool × Ex × St)} {e : Ex} {s : St} (hl : l94a st = some outs) (hch : Chosen outs e s) :
    ∃ keep nb, 0 ≤ nb ∧ LB Try.prog Sa (ro 94) L94 lp94a [false, true, false, true] keep nb st e s := by
  unfold l94a at hl
  split at hl
  · rename_i tr t6 nm m2_1 hno
    cases hl
    have hno := normW_norm hno
    refine ⟨_, _, ?_, .enter hno ?_⟩
    · decide
    have main := fun y h => LB_run (x := (⟨m2_1⟩ : S94a)) (y := y) (nb := 3) (fun y => by cases y <;> simp [ou94a]) (rnd94a tr t6 nm) h
    obtain ⟨x, hx, hg, rfl, rfl⟩ := chosen_any hch
    simp only [List.mem_cons, List.not_mem_nil, or_false] at hx
    rcases hx with rfl | rfl
    · exact main _ (is94a_0 tr t6 nm m2_1 hg)
    · exact main _ (is94a_1 tr t6 nm m2_1 hg)
  · cases hl
theorem L94_ok (q : Pl) (c : Code) (hq : locate c94 q.reverse = some (.loop c)) (st : St) (outs : List (Bool × Ex × St)) (e : Ex) (s : St) (hl : L94 q st = some outs) (hch : Chosen outs e s) :
    ∃ keep nb, 0 ≤ nb ∧ LB Try.prog Sa (ro 94) L94 c q keep nb st e s := by
  unfold L94 at hl
  split at hl
  · have : locate c94 ([false, true, false, true] : Pl).reverse = some (.loop lp94a) := by kernel_rfl
    rw [this] at hq
    cases hq
    exact lok94a hl hch
  · cases hl
theorem lok94 : LOK Try.prog Sa (ro 94) L94 0 false c94 [] :=
  lok_lo L94_ok c94 [] false (locate_nil _) (by kernel_rfl)
noncomputable def t94 (nm : ByteArray) (tr : Bool) : Tr ((Int)) :=
  .cn (i94a_0 tr 0 nm 0) (.lf (v94a_0_t6' tr 0 nm 0)) (.cn (i94a_1 tr 0 nm 0) (.lf (-1)) (.nn))
noncomputable def g94 (nm : ByteArray) (tr : Bool) : Bool := (t94 nm tr).g
noncomputable def w94_0 (nm : ByteArray) (tr : Bool) : Int := (t94 nm tr).val
theorem eq94 (nm : ByteArray) (tr : Bool) : evF Try.prog Sa (ro 94) L94 Try.f94 [.s nm, .fn 85 [], .b tr] = (t94 nm tr).opt (fun (x : (Int)) => (.i .i64 x : AV)) := by kernel_rfl
theorem con94 (nm : ByteArray) (tr : Bool) (h : g94 nm tr = true) : Con Try.prog 94 [.s nm, .fn 85 [], .b tr] [] (.i .i64 (w94_0 nm tr)) [] :=
  con_of Sa_ok mixed Try.func94 (c := c94) rfl (names 94 _ Try.func94) lok94 ((eq94 nm tr).trans (Tr.sound _ _ h))
noncomputable def e94 (args : List AV) (rows : List Blk) : Option (Bool × AV × List Blk) := match args, rows with
  | [.s nm, .fn 85 [], .b tr], [] => some (g94 nm tr, .i .i64 (w94_0 nm tr), [])
  | _, _ => none
theorem e94_ok (args : List AV) (rows : List Blk) (pre : Bool) (v : AV) (rows' : List Blk) (h : e94 args rows = some (pre, v, rows')) (hp : pre = true) : Con Try.prog 94 args rows v rows' := by
  unfold e94 at h
  split at h
  · cases h; exact con94 _ _ hp
  · cases h
-- SPEC 94
end Go.Proofs.Ytgifjphinkbcaaa

set_option maxRecDepth 100000
set_option linter.unusedVariables false
namespace Go.Proofs.Ytgifjphinkbcaaa
open Go Go.Ev

/-! ### Bound$1 -/
noncomputable def c54 : Code := match Try.f54.body with | some c => c | _ => .skip
theorem lok54 : LOK Try.prog Sa (ro 54) (fun _ _ => none) 0 false c54 [] :=
  lok_lo (fun _ _ _ _ _ _ _ h _ => by cases h) c54 [] false (locate_nil _) (by kernel_rfl)
noncomputable def t54 (x : Int) : Tr ((Bool)) :=
  .cn (g55 x 0 1000000) (.lf (!w55_0 x 0 1000000)) (.nn)
noncomputable def g54 (x : Int) : Bool := (t54 x).g
noncomputable def w54_0 (x : Int) : Bool := (t54 x).val
theorem eq54 (x : Int) : evF Try.prog Sa (ro 54) (fun _ _ => none) Try.f54 [.i .i64 x] = (t54 x).opt (fun (x : (Bool)) => (.b x : AV)) := by kernel_rfl
theorem con54 (x : Int) (h : g54 x = true) : Con Try.prog 54 [.i .i64 x] [] (.b (w54_0 x)) [] :=
  con_of Sa_ok mixed Try.func54 (c := c54) rfl (names 54 _ Try.func54) lok54 ((eq54 x).trans (Tr.sound _ _ h))
noncomputable def e54 (args : List AV) (rows : List Blk) : Option (Bool × AV × List Blk) := match args, rows with
  | [.i .i64 x], [] => some (g54 x, .b (w54_0 x), [])
  | _, _ => none
theorem e54_ok (args : List AV) (rows : List Blk) (pre : Bool) (v : AV) (rows' : List Blk) (h : e54 args rows = some (pre, v, rows')) (hp : pre = true) : Con Try.prog 54 args rows v rows' := by
  unfold e54 at h
  split at h
  · cases h; exact con54 _ hp
  · cases h
-- SPEC 54
end Go.Proofs.Ytgifjphinkbcaaa

set_option maxRecDepth 100000
set_option linter.unusedVariables false
namespace Go.Proofs.Ytgifjphinkbcaaa
open Go Go.Ev

/-! ### IndexFunc[Cut] -/
noncomputable def c83 : Code := match Try.f83.body with | some c => c | _ => .skip
noncomputable def lp83a : Code := loopAt c83 [true, false, true, false]
noncomputable def s83a (xs : List (List AV)) (da : Int) (db : Int) (cs : List (List AV)) (t4 : Int) (t7 : Int) (t8 : Int) : St :=
  { t := [(0, .rs 64 xs), (1, .fn 60 [.rp [.int .i64, .int .i64, .sl 64] [.i .i64 da, .i .i64 db, .rs 64 cs] 0]), (4, .i .i64 t4), (7, .i .i64 t7), (8, .i .i64 t8)], m := [], nx := 0, nt := 19 }
structure S83a where
  t8 : Int
inductive T83a where
  | x0 (t4' : Int) (t8 : Int)
  | x1 (t8 : Int)
noncomputable def stp83a (xs : List (List AV)) (da : Int) (db : Int) (cs : List (List AV)) (t4 : Int) (t7 : Int) (t8 : Int) : Lp S83a T83a :=
  cond (decide (t8 < t7)) (cond (inb t8 xs.length) (cond (w60_0 da db cs (fI (xs.getD t8.toNat []) 0) (fI (xs.getD t8.toNat []) 1)) (.out (.x0 t8 t8)) (.go ⟨IntKind.i64.wrap (t8 + 1)⟩)) (.bad)) (.out (.x1 t8))
noncomputable def o83a_0 (xs : List (List AV)) (da : Int) (db : Int) (cs : List (List AV)) (t4 : Int) (t7 : Int) (t4' : Int) (t8 : Int) : St :=
  { t := [(0, .rs 64 xs), (1, .fn 60 [.rp [.int .i64, .int .i64, .sl 64] [.i .i64 da, .i .i64 db, .rs 64 cs] 0]), (4, .i .i64 t4'), (7, .i .i64 t7), (8, .i .i64 t8)], m := [], nx := 0, nt := 19 }
noncomputable def o83a_1 (xs : List (List AV)) (da : Int) (db : Int) (cs : List (List AV)) (t4 : Int) (t7 : Int) (t8 : Int) : St :=
  { t := [(0, .rs 64 xs), (1, .fn 60 [.rp [.int .i64, .int .i64, .sl 64] [.i .i64 da, .i .i64 db, .rs 64 cs] 0]), (4, .i .i64 t4), (7, .i .i64 t7), (8, .i .i64 t8)], m := [], nx := 0, nt := 19 }
noncomputable def ou83a (xs : List (List AV)) (da : Int) (db : Int) (cs : List (List AV)) (t4 : Int) (t7 : Int) : T83a → Ex × St
  | .x0 t4' t8 => (.ret, o83a_0 xs da db cs t4 t7 t4' t8)
  | .x1 t8 => (.ext 0, o83a_1 xs da db cs t4 t7 t8)
noncomputable def r83a (xs : List (List AV)) (da : Int) (db : Int) (cs : List (List AV)) (t4 : Int) (t7 : Int) (t8 : Int) : Option T83a := run (fun x => stp83a xs da db cs t4 t7 x.t8) (⟨t8⟩ : S83a)
noncomputable def i83a_0 (xs : List (List AV)) (da : Int) (db : Int) (cs : List (List AV)) (t4 : Int) (t7 : Int) (t8 : Int) : Bool := match r83a xs da db cs t4 t7 t8 with
  | some (.x0 _ _) => true
  | _ => false
noncomputable def v83a_0_t4' (xs : List (List AV)) (da : Int) (db : Int) (cs : List (List AV)) (t4 : Int) (t7 : Int) (t8 : Int) : Int := match r83a xs da db cs t4 t7 t8 with
  | some (.x0 t4' _) => t4'
  | _ => default
noncomputable def v83a_0_t8 (xs : List (List AV)) (da : Int) (db : Int) (cs : List (List AV)) (t4 : Int) (t7 : Int) (t8 : Int) : Int := match r83a xs da db cs t4 t7 t8 with
  | some (.x0 _ t8) => t8
  | _ => default
noncomputable def i83a_1 (xs : List (List AV)) (da : Int) (db : Int) (cs : List (List AV)) (t4 : Int) (t7 : Int) (t8 : Int) : Bool := match r83a xs da db cs t4 t7 t8 with
  | some (.x1 _) => true
  | _ => false
noncomputable def v83a_1_t8 (xs : List (List AV)) (da : Int) (db : Int) (cs : List (List AV)) (t4 : Int) (t7 : Int) (t8 : Int) : Int := match r83a xs da db cs t4 t7 t8 with
  | some (.x1 t8) => t8
  | _ => default
noncomputable def l83a (st : St) : Option (List (Bool × Ex × St)) := match normW Try.prog [(0, none), (1, none), (4, none), (7, none), (8, none)] 0 st with
  | some ([.rs 64 xs, .fn 60 [.rp [.int .i64, .int .i64, .sl 64] [.i .i64 da, .i .i64 db, .rs 64 cs] 0], .i .i64 t4, .i .i64 t7, .i .i64 t8], [], 0, 19) => some [(i83a_0 xs da db cs t4 t7 t8, .ret, o83a_0 xs da db cs t4 t7 (v83a_0_t4' xs da db cs t4 t7 t8) (v83a_0_t8 xs da db cs t4 t7 t8)), (i83a_1 xs da db cs t4 t7 t8, .ext 0, o83a_1 xs da db cs t4 t7 (v83a_1_t8 xs da db cs t4 t7 t8))]
  | _ => none
noncomputable def L83 : LSpec := fun p st => match p with
  | [false, true, false, true] => l83a st
  | _ => none
theorem is83a_0 (xs : List (List AV)) (da : Int) (db : Int) (cs : List (List AV)) (t4 : Int) (t7 : Int) (t8 : Int) (h : i83a_0 xs da db cs t4 t7 t8 = true) : r83a xs da db cs t4 t7 t8 = some (.x0 (v83a_0_t4' xs da db cs t4 t7 t8) (v83a_0_t8 xs da db cs t4 t7 t8)) := by
  unfold i83a_0 at h
  unfold v83a_0_t4' v83a_0_t8
  generalize r83a xs da db cs t4 t7 t8 = r at h ⊢
  rcases r with _ | y
  · cases h
  · cases y <;> first | rfl | cases h
theorem is83a_1 (xs : List (List AV)) (da : Int) (db : Int) (cs : List (List AV)) (t4 : Int) (t7 : Int) (t8 : Int) (h : i83a_1 xs da db cs t4 t7 t8 = true) : r83a xs da db cs t4 t7 t8 = some (.x1 (v83a_1_t8 xs da db cs t4 t7 t8)) := by
  unfold i83a_1 at h
  unfold v83a_1_t8
  generalize r83a xs da db cs t4 t7 t8 = r at h ⊢
  rcases r with _ | y
  · cases h
  · cases y <;> first | rfl | cases h
theorem round83a (xs : List (List AV)) (da : Int) (db : Int) (cs : List (List AV)) (t4 : Int) (t7 : Int) (t8 : Int) : round Try.prog Sa (ro 83) L83 lp83a [false, true, false, true] [(0, none), (1, none), (4, none), (7, none), (8, none)] 0 (s83a xs da db cs t4 t7 t8) =
    cond (decide (t8 < t7)) (cond (inb t8 xs.length) (cond (w60_0 da db cs (fI (xs.getD t8.toNat []) 0) (fI (xs.getD t8.toNat []) 1)) (some (.ret, o83a_0 xs da db cs t4 t7 t8 t8)) (some (.nrm, s83a xs da db cs t4 t7 (IntKind.i64.wrap (t8 + 1))))) (none)) (some (.ext 0, o83a_1 xs da db cs t4 t7 t8)) := by kernel_rfl
theorem rnd83a (xs : List (List AV)) (da : Int) (db : Int) (cs : List (List AV)) (t4 : Int) (t7 : Int) (x : S83a) : round Try.prog Sa (ro 83) L83 lp83a [false, true, false, true] [(0, none), (1, none), (4, none), (7, none), (8, none)] 0 ((fun x => s83a xs da db cs t4 t7 x.t8) x) = toR (fun x => s83a xs da db cs t4 t7 x.t8) (ou83a xs da db cs t4 t7) (stp83a xs da db cs t4 t7 x.t8) := by
  refine (round83a _ _ _ _ _ _ _ ).trans ?_
  unfold stp83a
  simp only [toR_cond]
  rfl
theorem lok83a {st : St} {outs : List (Bool × Ex × St)} {e : Ex} {s : St} (hl : l83a st = some outs) (hch : Chosen outs e s) :
    ∃ keep nb, 0 ≤ nb ∧ LB Try.prog Sa (ro 83) L83 lp83a [false, true, false, true] keep nb st e s := by
  unfold l83a at hl
  split at hl
  · rename_i xs da db cs t4 t7 t8 hno
    cases hl
    have hno := normW_norm hno
    refine ⟨_, _, ?_, .enter hno ?_⟩
    · decide
    have main := fun y h => LB_run (x := (⟨t8⟩ : S83a)) (y := y) (nb := 0) (fun y => by cases y <;> simp [ou83a]) (rnd83a xs da db cs t4 t7) h
    obtain ⟨x, hx, hg, rfl, rfl⟩ := chosen_any hch
    simp only [List.mem_cons, List.not_mem_nil, or_false] at hx
    rcases hx with rfl | rfl
    · exact main _ (is83a_0 xs da db cs t4 t7 t8 hg)
    · exact main _ (is83a_1 xs da db cs t4 t7 t8 hg)
  · cases hl
theorem L83_ok (q : Pl) (c : Code) (hq : locate c83 q.reverse = some (.loop c)) (st : St) (outs : List (Bool × Ex × St)) (e : Ex) (s : St) (hl : L83 q st = some outs) (hch : Chosen outs e s) :
    ∃ keep nb, 0 ≤ nb ∧ LB Try.prog Sa (ro 83) L83 c q keep nb st e s := by
  unfold L83 at hl
  split at hl
  · have : locate c83 ([false, true, false, true] : Pl).reverse = some (.loop lp83a) := by kernel_rfl
    rw [this] at hq
    cases hq
    exact lok83a hl hch
  · cases hl
theorem lok83 : LOK Try.prog Sa (ro 83) L83 0 false c83 [] :=
  lok_lo L83_ok c83 [] false (locate_nil _) (by kernel_rfl)
noncomputable def t83 (xs : List (List AV)) (da db : Int) (cs : List (List AV)) : Tr ((Int)) :=
  .cn (i83a_0 xs da db cs 0 (↑xs.length : Int) 0) (.lf (v83a_0_t4' xs da db cs 0 (↑xs.length : Int) 0)) (.cn (i83a_1 xs da db cs 0 (↑xs.length : Int) 0) (.lf (-1)) (.nn))
noncomputable def g83 (xs : List (List AV)) (da db : Int) (cs : List (List AV)) : Bool := (t83 xs da db cs).g
noncomputable def w83_0 (xs : List (List AV)) (da db : Int) (cs : List (List AV)) : Int := (t83 xs da db cs).val
theorem eq83 (xs : List (List AV)) (da db : Int) (cs : List (List AV)) : evF Try.prog Sa (ro 83) L83 Try.f83 [.rs 64 xs, .fn 60 [.rp [.int .i64, .int .i64, .sl 64] [.i .i64 da, .i .i64 db, .rs 64 cs] 0]] = (t83 xs da db cs).opt (fun (x : (Int)) => (.i .i64 x : AV)) := by kernel_rfl
theorem con83 (xs : List (List AV)) (da db : Int) (cs : List (List AV)) (h : g83 xs da db cs = true) : Con Try.prog 83 [.rs 64 xs, .fn 60 [.rp [.int .i64, .int .i64, .sl 64] [.i .i64 da, .i .i64 db, .rs 64 cs] 0]] [] (.i .i64 (w83_0 xs da db cs)) [] :=
  con_of Sa_ok mixed Try.func83 (c := c83) rfl (names 83 _ Try.func83) lok83 ((eq83 xs da db cs).trans (Tr.sound _ _ h))
noncomputable def e83 (args : List AV) (rows : List Blk) : Option (Bool × AV × List Blk) := match args, rows with
  | [.rs 64 xs, .fn 60 [.rp [.int .i64, .int .i64, .sl 64] [.i .i64 da, .i .i64 db, .rs 64 cs] 0]], [] => some (g83 xs da db cs, .i .i64 (w83_0 xs da db cs), [])
  | _, _ => none
theorem e83_ok (args : List AV) (rows : List Blk) (pre : Bool) (v : AV) (rows' : List Blk) (h : e83 args rows = some (pre, v, rows')) (hp : pre = true) : Con Try.prog 83 args rows v rows' := by
  unfold e83 at h
  split at h
  · cases h; exact con83 _ _ _ _ hp
  · cases h
-- SPEC 83
end Go.Proofs.Ytgifjphinkbcaaa

set_option maxRecDepth 100000
set_option linter.unusedVariables false
namespace Go.Proofs.Ytgifjphinkbcaaa
open Go Go.Ev

/-! ### bound$1 -/
noncomputable def c82 : Code := match Try.f82.body with | some c => c | _ => .skip
noncomputable def lp82a : Code := loopAt c82 [true, true, false, true, false]
noncomputable def s82a (q0 : Int) (q1 : Int) (q2 : Int) (q3 : Int) (q4 : Int) (q5 : Int) (q6 : Int) (q7 : Int) (t3 : Int) (t4 : Int) (ws : List (List AV)) (t8 : Int) (t9 : Int) : St :=
  { t := [(2, .rp [.int .i64, .int .i64, .int .i64, .int .i64, .int .i64, .int .i64, .int .i64, .int .i64] [.i .i64 q0, .i .i64 q1, .i .i64 q2, .i .i64 q3, .i .i64 q4, .i .i64 q5, .i .i64 q6, .i .i64 q7] 0), (3, .i .i64 t3), (4, .i .i64 t4), (7, .rs 3 ws), (8, .i .i64 t8), (9, .i .i64 t9)], m := [], nx := 0, nt := 23 }
structure S82a where
  t4 : Int
  t9 : Int
inductive T82a where
  | x0 (t4 : Int) (t9 : Int)
noncomputable def stp82a (q0 : Int) (q1 : Int) (q2 : Int) (q3 : Int) (q4 : Int) (q5 : Int) (q6 : Int) (q7 : Int) (t3 : Int) (ws : List (List AV)) (t8 : Int) (t4 : Int) (t9 : Int) : Lp S82a T82a :=
  cond (decide (t9 < t8)) (cond (inb t9 ws.length) (cond (inb t9 8) (cond (ctsAt [CT.int IntKind.i64, CT.int IntKind.i64, CT.int IntKind.i64, CT.int IntKind.i64, CT.int IntKind.i64, CT.int IntKind.i64, CT.int IntKind.i64, CT.int IntKind.i64] (0 + t9.toNat * 1) (cts Try.prog 3)) (.go ⟨IntKind.i64.wrap (t4 + IntKind.i64.wrap (fI (ws.getD t9.toNat []) 0 * toI ([AV.i IntKind.i64 q0, AV.i IntKind.i64 q1, AV.i IntKind.i64 q2, AV.i IntKind.i64 q3, AV.i IntKind.i64 q4, AV.i IntKind.i64 q5, AV.i IntKind.i64 q6, AV.i IntKind.i64 q7].getD (0 + t9.toNat * 1) AV.u))), IntKind.i64.wrap (t9 + 1)⟩) (.bad)) (.bad)) (.bad)) (.out (.x0 t4 t9))
noncomputable def o82a_0 (q0 : Int) (q1 : Int) (q2 : Int) (q3 : Int) (q4 : Int) (q5 : Int) (q6 : Int) (q7 : Int) (t3 : Int) (ws : List (List AV)) (t8 : Int) (t4 : Int) (t9 : Int) : St :=
  { t := [(2, .rp [.int .i64, .int .i64, .int .i64, .int .i64, .int .i64, .int .i64, .int .i64, .int .i64] [.i .i64 q0, .i .i64 q1, .i .i64 q2, .i .i64 q3, .i .i64 q4, .i .i64 q5, .i .i64 q6, .i .i64 q7] 0), (3, .i .i64 t3), (4, .i .i64 t4), (7, .rs 3 ws), (8, .i .i64 t8), (9, .i .i64 t9)], m := [], nx := 0, nt := 23 }
noncomputable def ou82a (q0 : Int) (q1 : Int) (q2 : Int) (q3 : Int) (q4 : Int) (q5 : Int) (q6 : Int) (q7 : Int) (t3 : Int) (ws : List (List AV)) (t8 : Int) : T82a → Ex × St
  | .x0 t4 t9 => (.ext 0, o82a_0 q0 q1 q2 q3 q4 q5 q6 q7 t3 ws t8 t4 t9)
noncomputable def r82a (q0 : Int) (q1 : Int) (q2 : Int) (q3 : Int) (q4 : Int) (q5 : Int) (q6 : Int) (q7 : Int) (t3 : Int) (ws : List (List AV)) (t8 : Int) (t4 : Int) (t9 : Int) : Option T82a := run (fun x => stp82a q0 q1 q2 q3 q4 q5 q6 q7 t3 ws t8 x.t4 x.t9) (⟨t4, t9⟩ : S82a)
noncomputable def i82a_0 (q0 : Int) (q1 : Int) (q2 : Int) (q3 : Int) (q4 : Int) (q5 : Int) (q6 : Int) (q7 : Int) (t3 : Int) (ws : List (List AV)) (t8 : Int) (t4 : Int) (t9 : Int) : Bool := match r82a q0 q1 q2 q3 q4 q5 q6 q7 t3 ws t8 t4 t9 with
  | some (.x0 _ _) => true
  | _ => false
noncomputable def v82a_0_t4 (q0 : Int) (q1 : Int) (q2 : Int) (q3 : Int) (q4 : Int) (q5 : Int) (q6 : Int) (q7 : Int) (t3 : Int) (ws : List (List AV)) (t8 : Int) (t4 : Int) (t9 : Int) : Int := match r82a q0 q1 q2 q3 q4 q5 q6 q7 t3 ws t8 t4 t9 with
  | some (.x0 t4 _) => t4
  | _ => default
noncomputable def v82a_0_t9 (q0 : Int) (q1 : Int) (q2 : Int) (q3 : Int) (q4 : Int) (q5 : Int) (q6 : Int) (q7 : Int) (t3 : Int) (ws : List (List AV)) (t8 : Int) (t4 : Int) (t9 : Int) : Int := match r82a q0 q1 q2 q3 q4 q5 q6 q7 t3 ws t8 t4 t9 with
  | some (.x0 _ t9) => t9
  | _ => default
noncomputable def l82a (st : St) : Option (List (Bool × Ex × St)) := match normW Try.prog [(2, none), (3, none), (4, none), (7, none), (8, none), (9, none)] 0 st with
  | some ([.rp [.int .i64, .int .i64, .int .i64, .int .i64, .int .i64, .int .i64, .int .i64, .int .i64] [.i .i64 q0, .i .i64 q1, .i .i64 q2, .i .i64 q3, .i .i64 q4, .i .i64 q5, .i .i64 q6, .i .i64 q7] 0, .i .i64 t3, .i .i64 t4, .rs 3 ws, .i .i64 t8, .i .i64 t9], [], 0, 23) => some [(i82a_0 q0 q1 q2 q3 q4 q5 q6 q7 t3 ws t8 t4 t9, .ext 0, o82a_0 q0 q1 q2 q3 q4 q5 q6 q7 t3 ws t8 (v82a_0_t4 q0 q1 q2 q3 q4 q5 q6 q7 t3 ws t8 t4 t9) (v82a_0_t9 q0 q1 q2 q3 q4 q5 q6 q7 t3 ws t8 t4 t9))]
  | _ => none
noncomputable def L82 : LSpec := fun p st => match p with
  | [false, true, false, true, true] => l82a st
  | _ => none
theorem is82a_0 (q0 : Int) (q1 : Int) (q2 : Int) (q3 : Int) (q4 : Int) (q5 : Int) (q6 : Int) (q7 : Int) (t3 : Int) (ws : List (List AV)) (t8 : Int) (t4 : Int) (t9 : Int) (h : i82a_0 q0 q1 q2 q3 q4 q5 q6 q7 t3 ws t8 t4 t9 = true) : r82a q0 q1 q2 q3 q4 q5 q6 q7 t3 ws t8 t4 t9 = some (.x0 (v82a_0_t4 q0 q1 q2 q3 q4 q5 q6 q7 t3 ws t8 t4 t9) (v82a_0_t9 q0 q1 q2 q3 q4 q5 q6 q7 t3 ws t8 t4 t9)) := by
  unfold i82a_0 at h
  unfold v82a_0_t4 v82a_0_t9
  generalize r82a q0 q1 q2 q3 q4 q5 q6 q7 t3 ws t8 t4 t9 = r at h ⊢
  rcases r with _ | y
  · cases h
  · cases y <;> first | rfl | cases h
theorem round82a (q0 : Int) (q1 : Int) (q2 : Int) (q3 : Int) (q4 : Int) (q5 : Int) (q6 : Int) (q7 : Int) (t3 : Int) (t4 : Int) (ws : List (List AV)) (t8 : Int) (t9 : Int) : round Try.prog Sa (ro 82) L82 lp82a [false, true, false, true, true] [(2, none), (3, none), (4, none), (7, none), (8, none), (9, none)] 0 (s82a q0 q1 q2 q3 q4 q5 q6 q7 t3 t4 ws t8 t9) =
    cond (decide (t9 < t8)) (cond (inb t9 ws.length) (cond (inb t9 8) (cond (ctsAt [CT.int IntKind.i64, CT.int IntKind.i64, CT.int IntKind.i64, CT.int IntKind.i64, CT.int IntKind.i64, CT.int IntKind.i64, CT.int IntKind.i64, CT.int IntKind.i64] (0 + t9.toNat * 1) (cts Try.prog 3)) (some (.nrm, s82a q0 q1 q2 q3 q4 q5 q6 q7 t3 (IntKind.i64.wrap (t4 + IntKind.i64.wrap (fI (ws.getD t9.toNat []) 0 * toI ([AV.i IntKind.i64 q0, AV.i IntKind.i64 q1, AV.i IntKind.i64 q2, AV.i IntKind.i64 q3, AV.i IntKind.i64 q4, AV.i IntKind.i64 q5, AV.i IntKind.i64 q6, AV.i IntKind.i64 q7].getD (0 + t9.toNat * 1) AV.u)))) ws t8 (IntKind.i64.wrap (t9 + 1)))) (none)) (none)) (none)) (some (.ext 0, o82a_0 q0 q1 q2 q3 q4 q5 q6 q7 t3 ws t8 t4 t9)) := by kernel_rfl
theorem rnd82a (q0 : Int) (q1 : Int) (q2 : Int) (q3 : Int) (q4 : Int) (q5 : Int) (q6 : Int) (q7 : Int) (t3 : Int) (ws : List (List AV)) (t8 : Int) (x : S82a) : round Try.prog Sa (ro 82) L82 lp82a [false, true, false, true, true] [(2, none), (3, none), (4, none), (7, none), (8, none), (9, none)] 0 ((fun x => s82a q0 q1 q2 q3 q4 q5 q6 q7 t3 x.t4 ws t8 x.t9) x) = toR (fun x => s82a q0 q1 q2 q3 q4 q5 q6 q7 t3 x.t4 ws t8 x.t9) (ou82a q0 q1 q2 q3 q4 q5 q6 q7 t3 ws t8) (stp82a q0 q1 q2 q3 q4 q5 q6 q7 t3 ws t8 x.t4 x.t9) := by
  refine (round82a _ _ _ _ _ _ _ _ _ _ _ _ _ ).trans ?_
  unfold stp82a
  simp only [toR_cond]
  rfl
theorem lok82a {st : St} {outs : List (Bool × Ex × St)} {e : Ex} {s : St} (hl : l82a st = some outs) (hch : Chosen outs e s) :
    ∃ keep nb, 0 ≤ nb ∧ LB Try.prog Sa (ro 82) L82 lp82a [false, true, false, true, true] keep nb st e s := by
  unfold l82a at hl
  split at hl
  · rename_i q0 q1 q2 q3 q4 q5 q6 q7 t3 t4 ws t8 t9 hno
    cases hl
    have hno := normW_norm hno
    refine ⟨_, _, ?_, .enter hno ?_⟩
    · decide
    have main := fun y h => LB_run (x := (⟨t4, t9⟩ : S82a)) (y := y) (nb := 0) (fun y => by cases y <;> simp [ou82a]) (rnd82a q0 q1 q2 q3 q4 q5 q6 q7 t3 ws t8) h
    obtain ⟨x, hx, hg, rfl, rfl⟩ := chosen_any hch
    simp only [List.mem_cons, List.not_mem_nil, or_false] at hx
    subst hx
    exact main _ (is82a_0 q0 q1 q2 q3 q4 q5 q6 q7 t3 ws t8 t4 t9 hg)
  · cases hl
theorem L82_ok (q : Pl) (c : Code) (hq : locate c82 q.reverse = some (.loop c)) (st : St) (outs : List (Bool × Ex × St)) (e : Ex) (s : St) (hl : L82 q st = some outs) (hch : Chosen outs e s) :
    ∃ keep nb, 0 ≤ nb ∧ LB Try.prog Sa (ro 82) L82 c q keep nb st e s := by
  unfold L82 at hl
  split at hl
  · have : locate c82 ([false, true, false, true, true] : Pl).reverse = some (.loop lp82a) := by kernel_rfl
    rw [this] at hq
    cases hq
    exact lok82a hl hch
  · cases hl
theorem lok82 : LOK Try.prog Sa (ro 82) L82 0 false c82 [] :=
  lok_lo L82_ok c82 [] false (locate_nil _) (by kernel_rfl)
noncomputable def t82 (ws : List (List AV)) (q0 q1 q2 q3 q4 q5 q6 q7 : Int) : Tr ((Int)) :=
  .cn (i82a_0 q0 q1 q2 q3 q4 q5 q6 q7 0 ws (↑ws.length : Int) 0 0) (.lf (v82a_0_t4 q0 q1 q2 q3 q4 q5 q6 q7 0 ws (↑ws.length : Int) 0 0)) (.nn)
noncomputable def g82 (ws : List (List AV)) (q0 q1 q2 q3 q4 q5 q6 q7 : Int) : Bool := (t82 ws q0 q1 q2 q3 q4 q5 q6 q7).g
noncomputable def w82_0 (ws : List (List AV)) (q0 q1 q2 q3 q4 q5 q6 q7 : Int) : Int := (t82 ws q0 q1 q2 q3 q4 q5 q6 q7).val
theorem eq82 (ws : List (List AV)) (q0 q1 q2 q3 q4 q5 q6 q7 : Int) : evF Try.prog Sa (ro 82) L82 Try.f82 [.agg [.i .i64 q0, .i .i64 q1, .i .i64 q2, .i .i64 q3, .i .i64 q4, .i .i64 q5, .i .i64 q6, .i .i64 q7], .rp [.sl 3] [.rs 3 ws] 0] = (t82 ws q0 q1 q2 q3 q4 q5 q6 q7).opt (fun (x : (Int)) => (.i .i64 x : AV)) := by kernel_rfl
theorem con82 (ws : List (List AV)) (q0 q1 q2 q3 q4 q5 q6 q7 : Int) (h : g82 ws q0 q1 q2 q3 q4 q5 q6 q7 = true) : Con Try.prog 82 [.agg [.i .i64 q0, .i .i64 q1, .i .i64 q2, .i .i64 q3, .i .i64 q4, .i .i64 q5, .i .i64 q6, .i .i64 q7], .rp [.sl 3] [.rs 3 ws] 0] [] (.i .i64 (w82_0 ws q0 q1 q2 q3 q4 q5 q6 q7)) [] :=
  con_of Sa_ok mixed Try.func82 (c := c82) rfl (names 82 _ Try.func82) lok82 ((eq82 ws q0 q1 q2 q3 q4 q5 q6 q7).trans (Tr.sound _ _ h))
noncomputable def e82 (args : List AV) (rows : List Blk) : Option (Bool × AV × List Blk) := match args, rows with
  | [.agg [.i .i64 q0, .i .i64 q1, .i .i64 q2, .i .i64 q3, .i .i64 q4, .i .i64 q5, .i .i64 q6, .i .i64 q7], .rp [.sl 3] [.rs 3 ws] 0], [] => some (g82 ws q0 q1 q2 q3 q4 q5 q6 q7, .i .i64 (w82_0 ws q0 q1 q2 q3 q4 q5 q6 q7), [])
  | _, _ => none
theorem e82_ok (args : List AV) (rows : List Blk) (pre : Bool) (v : AV) (rows' : List Blk) (h : e82 args rows = some (pre, v, rows')) (hp : pre = true) : Con Try.prog 82 args rows v rows' := by
  unfold e82 at h
  split at h
  · cases h; exact con82 _ _ _ _ _ _ _ _ _ hp
  · cases h
-- SPEC 82
end Go.Proofs.Ytgifjphinkbcaaa

set_option maxRecDepth 100000
set_option linter.unusedVariables false
namespace Go.Proofs.Ytgifjphinkbcaaa
open Go Go.Ev

/-! ### count -/
noncomputable def c81 : Code := match Try.f81.body with | some c => c | _ => .skip
noncomputable def lp81a : Code := loopAt c81 [true, true, true, false, true, false]
noncomputable def s81a (ra : Int) (rb : Int) (rc : Int) (ps : List (List AV)) (t3 : Nat) (t4 : Int) (m5 : List (List AV)) : St :=
  { t := [(1, .rp [.int .i64, .int .i64, .int .i64, .sl 31] [.i .i64 ra, .i .i64 rb, .i .i64 rc, .rs 31 ps] 0), (2, .nl), (3, .sl 5 0 t3), (4, .i .i64 t4)], m := [(0, .dead), (1, .dead), (2, .dead), (3, .dead), (4, .dead), (5, .row 91 m5)], nx := 6, nt := 66 }
noncomputable def lp81aa : Code := loopAt c81 [true, true, true, false, true, false, false, true, false, false, true, false]
noncomputable def s81aa (ra : Int) (rb : Int) (rc : Int) (ps : List (List AV)) (t3 : Nat) (t4 : Int) (t25 : List (List AV)) (t26 : Int) (t27 : Int) (m5 : List (List AV)) : St :=
  { t := [(1, .rp [.int .i64, .int .i64, .int .i64, .sl 31] [.i .i64 ra, .i .i64 rb, .i .i64 rc, .rs 31 ps] 0), (2, .nl), (3, .sl 5 0 t3), (4, .i .i64 t4), (25, .rs 31 t25), (26, .i .i64 t26), (27, .i .i64 t27)], m := [(0, .dead), (1, .dead), (2, .dead), (3, .dead), (4, .dead), (5, .row 91 m5)], nx := 6, nt := 66 }
structure S81aa where
  t27 : Int
  m5 : List (List AV)
inductive T81aa where
  | x0 (t27 : Int) (m5 : List (List AV))
noncomputable def stp81aa (ra : Int) (rb : Int) (rc : Int) (ps : List (List AV)) (t3 : Nat) (t4 : Int) (t25 : List (List AV)) (t26 : Int) (t27 : Int) (m5 : List (List AV)) : Lp S81aa T81aa :=
  cond (decide (t27 < t26)) (cond (inb t27 t25.length) (cond (g71 t4 (fI (t25.getD t27.toNat []) 2) (fS (t25.getD t27.toNat []) 0) (fI (t25.getD t27.toNat []) 1) (fI (t25.getD t27.toNat []) 2) (fI (t25.getD t27.toNat []) 3) (fI (t25.getD t27.toNat []) 4)) (cond (w71_2 t4 (fI (t25.getD t27.toNat []) 2) (fS (t25.getD t27.toNat []) 0) (fI (t25.getD t27.toNat []) 1) (fI (t25.getD t27.toNat []) 2) (fI (t25.getD t27.toNat []) 3) (fI (t25.getD t27.toNat []) 4)) (cond (inb t4 t3 && (0 + t4.toNat).blt m5.length) (cond (inb (fI (t25.getD t27.toNat []) 2) 10) (cond (ctsAt (cts Try.prog 91) (0 + (fI (t25.getD t27.toNat []) 2).toNat * 1) (cts Try.prog 3) && (0 + t4.toNat).blt m5.length) (cond (inb (w71_0 t4 (fI (t25.getD t27.toNat []) 2) (fS (t25.getD t27.toNat []) 0) (fI (t25.getD t27.toNat []) 1) (fI (t25.getD t27.toNat []) 2) (fI (t25.getD t27.toNat []) 3) (fI (t25.getD t27.toNat []) 4)) t3 && (0 + (w71_0 t4 (fI (t25.getD t27.toNat []) 2) (fS (t25.getD t27.toNat []) 0) (fI (t25.getD t27.toNat []) 1) (fI (t25.getD t27.toNat []) 2) (fI (t25.getD t27.toNat []) 3) (fI (t25.getD t27.toNat []) 4)).toNat).blt m5.length) (cond (inb (w71_1 t4 (fI (t25.getD t27.toNat []) 2) (fS (t25.getD t27.toNat []) 0) (fI (t25.getD t27.toNat []) 1) (fI (t25.getD t27.toNat []) 2) (fI (t25.getD t27.toNat []) 3) (fI (t25.getD t27.toNat []) 4)) 10) (cond (ctsAt (cts Try.prog 91) (0 + (w71_1 t4 (fI (t25.getD t27.toNat []) 2) (fS (t25.getD t27.toNat []) 0) (fI (t25.getD t27.toNat []) 1) (fI (t25.getD t27.toNat []) 2) (fI (t25.getD t27.toNat []) 3) (fI (t25.getD t27.toNat []) 4)).toNat * 1) (cts Try.prog 3) && (0 + (w71_0 t4 (fI (t25.getD t27.toNat []) 2) (fS (t25.getD t27.toNat []) 0) (fI (t25.getD t27.toNat []) 1) (fI (t25.getD t27.toNat []) 2) (fI (t25.getD t27.toNat []) 3) (fI (t25.getD t27.toNat []) 4)).toNat).blt m5.length) (cond (inb t4 t3 && (0 + t4.toNat).blt m5.length) (cond (inb (fI (t25.getD t27.toNat []) 2) 10) (cond (ctsAt (cts Try.prog 91) (0 + (fI (t25.getD t27.toNat []) 2).toNat * 1) (cts Try.prog 3) && (0 + t4.toNat).blt m5.length) (.go ⟨IntKind.i64.wrap (t27 + 1), m5.set (0 + t4.toNat) (setCs (m5.getD (0 + t4.toNat) []) (0 + (fI (t25.getD t27.toNat []) 2).toNat * 1) [AV.i IntKind.i64 (bmin (IntKind.i64.wrap (toI ((m5.getD (0 + t4.toNat) []).getD (0 + (fI (t25.getD t27.toNat []) 2).toNat * 1) AV.u) + toI ((m5.getD (0 + (w71_0 t4 (fI (t25.getD t27.toNat []) 2) (fS (t25.getD t27.toNat []) 0) (fI (t25.getD t27.toNat []) 1) (fI (t25.getD t27.toNat []) 2) (fI (t25.getD t27.toNat []) 3) (fI (t25.getD t27.toNat []) 4)).toNat) []).getD (0 + (w71_1 t4 (fI (t25.getD t27.toNat []) 2) (fS (t25.getD t27.toNat []) 0) (fI (t25.getD t27.toNat []) 1) (fI (t25.getD t27.toNat []) 2) (fI (t25.getD t27.toNat []) 3) (fI (t25.getD t27.toNat []) 4)).toNat * 1) AV.u))) 1000000000000001)])⟩) (.bad)) (.bad)) (.bad)) (.bad)) (.bad)) (.bad)) (.bad)) (.bad)) (.bad)) (.go ⟨IntKind.i64.wrap (t27 + 1), m5⟩)) (.bad)) (.bad)) (.out (.x0 t27 m5))
noncomputable def o81aa_0 (ra : Int) (rb : Int) (rc : Int) (ps : List (List AV)) (t3 : Nat) (t4 : Int) (t25 : List (List AV)) (t26 : Int) (t27 : Int) (m5 : List (List AV)) : St :=
  { t := [(1, .rp [.int .i64, .int .i64, .int .i64, .sl 31] [.i .i64 ra, .i .i64 rb, .i .i64 rc, .rs 31 ps] 0), (2, .nl), (3, .sl 5 0 t3), (4, .i .i64 t4), (25, .rs 31 t25), (26, .i .i64 t26), (27, .i .i64 t27)], m := [(0, .dead), (1, .dead), (2, .dead), (3, .dead), (4, .dead), (5, .row 91 m5)], nx := 6, nt := 66 }
noncomputable def ou81aa (ra : Int) (rb : Int) (rc : Int) (ps : List (List AV)) (t3 : Nat) (t4 : Int) (t25 : List (List AV)) (t26 : Int) : T81aa → Ex × St
  | .x0 t27 m5 => (.ext 2, o81aa_0 ra rb rc ps t3 t4 t25 t26 t27 m5)
noncomputable def r81aa (ra : Int) (rb : Int) (rc : Int) (ps : List (List AV)) (t3 : Nat) (t4 : Int) (t25 : List (List AV)) (t26 : Int) (t27 : Int) (m5 : List (List AV)) : Option T81aa := run (fun x => stp81aa ra rb rc ps t3 t4 t25 t26 x.t27 x.m5) (⟨t27, m5⟩ : S81aa)
noncomputable def i81aa_0 (ra : Int) (rb : Int) (rc : Int) (ps : List (List AV)) (t3 : Nat) (t4 : Int) (t25 : List (List AV)) (t26 : Int) (t27 : Int) (m5 : List (List AV)) : Bool := match r81aa ra rb rc ps t3 t4 t25 t26 t27 m5 with
  | some (.x0 _ _) => true
  | _ => false
noncomputable def v81aa_0_t27 (ra : Int) (rb : Int) (rc : Int) (ps : List (List AV)) (t3 : Nat) (t4 : Int) (t25 : List (List AV)) (t26 : Int) (t27 : Int) (m5 : List (List AV)) : Int := match r81aa ra rb rc ps t3 t4 t25 t26 t27 m5 with
  | some (.x0 t27 _) => t27
  | _ => default
noncomputable def v81aa_0_m5 (ra : Int) (rb : Int) (rc : Int) (ps : List (List AV)) (t3 : Nat) (t4 : Int) (t25 : List (List AV)) (t26 : Int) (t27 : Int) (m5 : List (List AV)) : List (List AV) := match r81aa ra rb rc ps t3 t4 t25 t26 t27 m5 with
  | some (.x0 _ m5) => m5
  | _ => default
noncomputable def l81aa (st : St) : Option (List (Bool × Ex × St)) := match normW Try.prog [(1, none), (2, none), (3, none), (4, none), (25, none), (26, none), (27, none)] 6 st with
  | some ([.rp [.int .i64, .int .i64, .int .i64, .sl 31] [.i .i64 ra, .i .i64 rb, .i .i64 rc, .rs 31 ps] 0, .nl, .sl 5 0 t3, .i .i64 t4, .rs 31 t25, .i .i64 t26, .i .i64 t27], [(0, .dead), (1, .dead), (2, .dead), (3, .dead), (4, .dead), (5, .row 91 m5)], 6, 66) => some [(i81aa_0 ra rb rc ps t3 t4 t25 t26 t27 m5, .ext 2, o81aa_0 ra rb rc ps t3 t4 t25 t26 (v81aa_0_t27 ra rb rc ps t3 t4 t25 t26 t27 m5) (v81aa_0_m5 ra rb rc ps t3 t4 t25 t26 t27 m5))]
  | _ => none
structure S81a where
  t4 : Int
  m5 : List (List AV)
inductive T81a where
  | x0 (t4 : Int) (m5 : List (List AV))
noncomputable def stp81a (ra : Int) (rb : Int) (rc : Int) (ps : List (List AV)) (t3 : Nat) (t4 : Int) (m5 : List (List AV)) : Lp S81a T81a :=
  cond (decide (t4 ≤ ra)) (cond (i81aa_0 ra rb rc ps t3 t4 ps (↑ps.length : Int) 0 m5) (.go ⟨IntKind.i64.wrap (t4 + 1), v81aa_0_m5 ra rb rc ps t3 t4 ps (↑ps.length : Int) 0 m5⟩) (.bad)) (.out (.x0 t4 m5))
noncomputable def o81a_0 (ra : Int) (rb : Int) (rc : Int) (ps : List (List AV)) (t3 : Nat) (t4 : Int) (m5 : List (List AV)) : St :=
  { t := [(1, .rp [.int .i64, .int .i64, .int .i64, .sl 31] [.i .i64 ra, .i .i64 rb, .i .i64 rc, .rs 31 ps] 0), (2, .nl), (3, .sl 5 0 t3), (4, .i .i64 t4)], m := [(0, .dead), (1, .dead), (2, .dead), (3, .dead), (4, .dead), (5, .row 91 m5)], nx := 6, nt := 66 }
noncomputable def ou81a (ra : Int) (rb : Int) (rc : Int) (ps : List (List AV)) (t3 : Nat) : T81a → Ex × St
  | .x0 t4 m5 => (.ext 0, o81a_0 ra rb rc ps t3 t4 m5)
noncomputable def r81a (ra : Int) (rb : Int) (rc : Int) (ps : List (List AV)) (t3 : Nat) (t4 : Int) (m5 : List (List AV)) : Option T81a := run (fun x => stp81a ra rb rc ps t3 x.t4 x.m5) (⟨t4, m5⟩ : S81a)
noncomputable def i81a_0 (ra : Int) (rb : Int) (rc : Int) (ps : List (List AV)) (t3 : Nat) (t4 : Int) (m5 : List (List AV)) : Bool := match r81a ra rb rc ps t3 t4 m5 with
  | some (.x0 _ _) => true
  | _ => false
noncomputable def v81a_0_t4 (ra : Int) (rb : Int) (rc : Int) (ps : List (List AV)) (t3 : Nat) (t4 : Int) (m5 : List (List AV)) : Int := match r81a ra rb rc ps t3 t4 m5 with
  | some (.x0 t4 _) => t4
  | _ => default
noncomputable def v81a_0_m5 (ra : Int) (rb : Int) (rc : Int) (ps : List (List AV)) (t3 : Nat) (t4 : Int) (m5 : List (List AV)) : List (List AV) := match r81a ra rb rc ps t3 t4 m5 with
  | some (.x0 _ m5) => m5
  | _ => default
noncomputable def l81a (st : St) : Option (List (Bool × Ex × St)) := match normW Try.prog [(1, none), (2, none), (3, none), (4, none)] 6 st with
  | some ([.rp [.int .i64, .int .i64, .int .i64, .sl 31] [.i .i64 ra, .i .i64 rb, .i .i64 rc, .rs 31 ps] 0, .nl, .sl 5 0 t3, .i .i64 t4], [(0, .dead), (1, .dead), (2, .dead), (3, .dead), (4, .dead), (5, .row 91 m5)], 6, 66) => some [(i81a_0 ra rb rc ps t3 t4 m5, .ext 0, o81a_0 ra rb rc ps t3 (v81a_0_t4 ra rb rc ps t3 t4 m5) (v81a_0_m5 ra rb rc ps t3 t4 m5))]
  | _ => none
noncomputable def L81 : LSpec := fun p st => match p with
  | [false, true, false, false, true, false, false, true, false, true, true, true] => l81aa st
  | [false, true, false, true, true, true] => l81a st
  | _ => none
theorem is81aa_0 (ra : Int) (rb : Int) (rc : Int) (ps : List (List AV)) (t3 : Nat) (t4 : Int) (t25 : List (List AV)) (t26 : Int) (t27 : Int) (m5 : List (List AV)) (h : i81aa_0 ra rb rc ps t3 t4 t25 t26 t27 m5 = true) : r81aa ra rb rc ps t3 t4 t25 t26 t27 m5 = some (.x0 (v81aa_0_t27 ra rb rc ps t3 t4 t25 t26 t27 m5) (v81aa_0_m5 ra rb rc ps t3 t4 t25 t26 t27 m5)) := by
  unfold i81aa_0 at h
  unfold v81aa_0_t27 v81aa_0_m5
  generalize r81aa ra rb rc ps t3 t4 t25 t26 t27 m5 = r at h ⊢
  rcases r with _ | y
  · cases h
  · cases y <;> first | rfl | cases h
theorem round81aa (ra : Int) (rb : Int) (rc : Int) (ps : List (List AV)) (t3 : Nat) (t4 : Int) (t25 : List (List AV)) (t26 : Int) (t27 : Int) (m5 : List (List AV)) : round Try.prog Sa (ro 81) L81 lp81aa [false, true, false, false, true, false, false, true, false, true, true, true] [(1, none), (2, none), (3, none), (4, none), (25, none), (26, none), (27, none)] 6 (s81aa ra rb rc ps t3 t4 t25 t26 t27 m5) =
    cond (decide (t27 < t26)) (cond (inb t27 t25.length) (cond (g71 t4 (fI (t25.getD t27.toNat []) 2) (fS (t25.getD t27.toNat []) 0) (fI (t25.getD t27.toNat []) 1) (fI (t25.getD t27.toNat []) 2) (fI (t25.getD t27.toNat []) 3) (fI (t25.getD t27.toNat []) 4)) (cond (w71_2 t4 (fI (t25.getD t27.toNat []) 2) (fS (t25.getD t27.toNat []) 0) (fI (t25.getD t27.toNat []) 1) (fI (t25.getD t27.toNat []) 2) (fI (t25.getD t27.toNat []) 3) (fI (t25.getD t27.toNat []) 4)) (cond (inb t4 t3 && (0 + t4.toNat).blt m5.length) (cond (inb (fI (t25.getD t27.toNat []) 2) 10) (cond (ctsAt (cts Try.prog 91) (0 + (fI (t25.getD t27.toNat []) 2).toNat * 1) (cts Try.prog 3) && (0 + t4.toNat).blt m5.length) (cond (inb (w71_0 t4 (fI (t25.getD t27.toNat []) 2) (fS (t25.getD t27.toNat []) 0) (fI (t25.getD t27.toNat []) 1) (fI (t25.getD t27.toNat []) 2) (fI (t25.getD t27.toNat []) 3) (fI (t25.getD t27.toNat []) 4)) t3 && (0 + (w71_0 t4 (fI (t25.getD t27.toNat []) 2) (fS (t25.getD t27.toNat []) 0) (fI (t25.getD t27.toNat []) 1) (fI (t25.getD t27.toNat []) 2) (fI (t25.getD t27.toNat []) 3) (fI (t25.getD t27.toNat []) 4)).toNat).blt m5.length) (cond (inb (w71_1 t4 (fI (t25.getD t27.toNat []) 2) (fS (t25.getD t27.toNat []) 0) (fI (t25.getD t27.toNat []) 1) (fI (t25.getD t27.toNat []) 2) (fI (t25.getD t27.toNat []) 3) (fI (t25.getD t27.toNat []) 4)) 10) (cond (ctsAt (cts Try.prog 91) (0 + (w71_1 t4 (fI (t25.getD t27.toNat []) 2) (fS (t25.getD t27.toNat []) 0) (fI (t25.getD t27.toNat []) 1) (fI (t25.getD t27.toNat []) 2) (fI (t25.getD t27.toNat []) 3) (fI (t25.getD t27.toNat []) 4)).toNat * 1) (cts Try.prog 3) && (0 + (w71_0 t4 (fI (t25.getD t27.toNat []) 2) (fS (t25.getD t27.toNat []) 0) (fI (t25.getD t27.toNat []) 1) (fI (t25.getD t27.toNat []) 2) (fI (t25.getD t27.toNat []) 3) (fI (t25.getD t27.toNat []) 4)).toNat).blt m5.length) (cond (inb t4 t3 && (0 + t4.toNat).blt m5.length) (cond (inb (fI (t25.getD t27.toNat []) 2) 10) (cond (ctsAt (cts Try.prog 91) (0 + (fI (t25.getD t27.toNat []) 2).toNat * 1) (cts Try.prog 3) && (0 + t4.toNat).blt m5.length) (some (.nrm, s81aa ra rb rc ps t3 t4 t25 t26 (IntKind.i64.wrap (t27 + 1)) (m5.set (0 + t4.toNat) (setCs (m5.getD (0 + t4.toNat) []) (0 + (fI (t25.getD t27.toNat []) 2).toNat * 1) [AV.i IntKind.i64 (bmin (IntKind.i64.wrap (toI ((m5.getD (0 + t4.toNat) []).getD (0 + (fI (t25.getD t27.toNat []) 2).toNat * 1) AV.u) + toI ((m5.getD (0 + (w71_0 t4 (fI (t25.getD t27.toNat []) 2) (fS (t25.getD t27.toNat []) 0) (fI (t25.getD t27.toNat []) 1) (fI (t25.getD t27.toNat []) 2) (fI (t25.getD t27.toNat []) 3) (fI (t25.getD t27.toNat []) 4)).toNat) []).getD (0 + (w71_1 t4 (fI (t25.getD t27.toNat []) 2) (fS (t25.getD t27.toNat []) 0) (fI (t25.getD t27.toNat []) 1) (fI (t25.getD t27.toNat []) 2) (fI (t25.getD t27.toNat []) 3) (fI (t25.getD t27.toNat []) 4)).toNat * 1) AV.u))) 1000000000000001)])))) (none)) (none)) (none)) (none)) (none)) (none)) (none)) (none)) (none)) (some (.nrm, s81aa ra rb rc ps t3 t4 t25 t26 (IntKind.i64.wrap (t27 + 1)) m5))) (none)) (none)) (some (.ext 2, o81aa_0 ra rb rc ps t3 t4 t25 t26 t27 m5)) := by kernel_rfl
theorem rnd81aa (ra : Int) (rb : Int) (rc : Int) (ps : List (List AV)) (t3 : Nat) (t4 : Int) (t25 : List (List AV)) (t26 : Int) (x : S81aa) : round Try.prog Sa (ro 81) L81 lp81aa [false, true, false, false, true, false, false, true, false, true, true, true] [(1, none), (2, none), (3, none), (4, none), (25, none), (26, none), (27, none)] 6 ((fun x => s81aa ra rb rc ps t3 t4 t25 t26 x.t27 x.m5) x) = toR (fun x => s81aa ra rb rc ps t3 t4 t25 t26 x.t27 x.m5) (ou81aa ra rb rc ps t3 t4 t25 t26) (stp81aa ra rb rc ps t3 t4 t25 t26 x.t27 x.m5) := by
  refine (round81aa _ _ _ _ _ _ _ _ _ _ ).trans ?_
  unfold stp81aa
  simp only [toR_cond]
  rfl
theorem lok81aa {st : St} {outs : List (Bool × Ex × St)} {e : Ex} {s : St} (hl : l81aa st = some outs) (hch : Chosen outs e s) :
    ∃ keep nb, 0 ≤ nb ∧ LB Try.prog Sa (ro 81) L81 lp81aa [false, true, false, false, true, false, false, true, false, true, true, true] keep nb st e s := by
  unfold l81aa at hl
  split at hl
  · rename_i ra rb rc ps t3 t4 t25 t26 t27 m5 hno
    cases hl
    have hno := normW_norm hno
    refine ⟨_, _, ?_, .enter hno ?_⟩
    · decide
    have main := fun y h => LB_run (x := (⟨t27, m5⟩ : S81aa)) (y := y) (nb := 6) (fun y => by cases y <;> simp [ou81aa]) (rnd81aa ra rb rc ps t3 t4 t25 t26) h
    obtain ⟨x, hx, hg, rfl, rfl⟩ := chosen_any hch
    simp only [List.mem_cons, List.not_mem_nil, or_false] at hx
    subst hx
    exact main _ (is81aa_0 ra rb rc ps t3 t4 t25 t26 t27 m5 hg)
  · cases hl
theorem is81a_0 (ra : Int) (rb : Int) (rc : Int) (ps : List (List AV)) (t3 : Nat) (t4 : Int) (m5 : List (List AV)) (h : i81a_0 ra rb rc ps t3 t4 m5 = true) : r81a ra rb rc ps t3 t4 m5 = some (.x0 (v81a_0_t4 ra rb rc ps t3 t4 m5) (v81a_0_m5 ra rb rc ps t3 t4 m5)) := by
  unfold i81a_0 at h
  unfold v81a_0_t4 v81a_0_m5
  generalize r81a ra rb rc ps t3 t4 m5 = r at h ⊢
  rcases r with _ | y
  · cases h
  · cases y <;> first | rfl | cases h
theorem round81a (ra : Int) (rb : Int) (rc : Int) (ps : List (List AV)) (t3 : Nat) (t4 : Int) (m5 : List (List AV)) : round Try.prog Sa (ro 81) L81 lp81a [false, true, false, true, true, true] [(1, none), (2, none), (3, none), (4, none)] 6 (s81a ra rb rc ps t3 t4 m5) =
    cond (decide (t4 ≤ ra)) (cond (i81aa_0 ra rb rc ps t3 t4 ps (↑ps.length : Int) 0 m5) (some (.nrm, s81a ra rb rc ps t3 (IntKind.i64.wrap (t4 + 1)) (v81aa_0_m5 ra rb rc ps t3 t4 ps (↑ps.length : Int) 0 m5))) (none)) (some (.ext 0, o81a_0 ra rb rc ps t3 t4 m5)) := by kernel_rfl
theorem rnd81a (ra : Int) (rb : Int) (rc : Int) (ps : List (List AV)) (t3 : Nat) (x : S81a) : round Try.prog Sa (ro 81) L81 lp81a [false, true, false, true, true, true] [(1, none), (2, none), (3, none), (4, none)] 6 ((fun x => s81a ra rb rc ps t3 x.t4 x.m5) x) = toR (fun x => s81a ra rb rc ps t3 x.t4 x.m5) (ou81a ra rb rc ps t3) (stp81a ra rb rc ps t3 x.t4 x.m5) := by
  refine (round81a _ _ _ _ _ _ _ ).trans ?_
  unfold stp81a
  simp only [toR_cond]
  rfl
theorem lok81a {st : St} {outs : List (Bool × Ex × St)} {e : Ex} {s : St} (hl : l81a st = some outs) (hch : Chosen outs e s) :
    ∃ keep nb, 0 ≤ nb ∧ LB Try.prog Sa (ro 81) L81 lp81a [false, true, false, true, true, true] keep nb st e s := by
  unfold l81a at hl
  split at hl
  · rename_i ra rb rc ps t3 t4 m5 hno
    cases hl
    have hno := normW_norm hno
    refine ⟨_, _, ?_, .enter hno ?_⟩
    · decide
    have main := fun y h => LB_run (x := (⟨t4, m5⟩ : S81a)) (y := y) (nb := 6) (fun y => by cases y <;> simp [ou81a]) (rnd81a ra rb rc ps t3) h
    obtain ⟨x, hx, hg, rfl, rfl⟩ := chosen_any hch
    simp only [List.mem_cons, List.not_mem_nil, or_false] at hx
    subst hx
    exact main _ (is81a_0 ra rb rc ps t3 t4 m5 hg)
  · cases hl
theorem L81_ok (q : Pl) (c : Code) (hq : locate c81 q.reverse = some (.loop c)) (st : St) (outs : List (Bool × Ex × St)) (e : Ex) (s : St) (hl : L81 q st = some outs) (hch : Chosen outs e s) :
    ∃ keep nb, 0 ≤ nb ∧ LB Try.prog Sa (ro 81) L81 c q keep nb st e s := by
  unfold L81 at hl
  split at hl
  · have : locate c81 ([false, true, false, false, true, false, false, true, false, true, true, true] : Pl).reverse = some (.loop lp81aa) := by kernel_rfl
    rw [this] at hq
    cases hq
    exact lok81aa hl hch
  · have : locate c81 ([false, true, false, true, true, true] : Pl).reverse = some (.loop lp81a) := by kernel_rfl
    rw [this] at hq
    cases hq
    exact lok81a hl hch
  · cases hl
theorem lok81 : LOK Try.prog Sa (ro 81) L81 0 false c81 [] :=
  lok_lo L81_ok c81 [] false (locate_nil _) (by kernel_rfl)
noncomputable def t81 (ra rb rc : Int) (ps : List (List AV)) : Tr ((List (List AV))) :=
  .cn (decide (IntKind.i64.wrap (ra + 1) = IntKind.i64.wrap (ra + 1)) && (decide (0 ≤ IntKind.i64.wrap (ra + 1)) && decide (IntKind.i64.wrap (ra + 1) * (↑80 : Int) ≤ 140737488355328) && decide (IntKind.i64.wrap (ra + 1) ≤ 9223372036854775807))) (.cn (inb 0 (IntKind.i64.wrap (ra + 1)).toNat && Nat.blt 0 (List.replicate (IntKind.i64.wrap (ra + 1)).toNat [AV.i IntKind.i64 0, AV.i IntKind.i64 0, AV.i IntKind.i64 0, AV.i IntKind.i64 0, AV.i IntKind.i64 0, AV.i IntKind.i64 0, AV.i IntKind.i64 0, AV.i IntKind.i64 0, AV.i IntKind.i64 0, AV.i IntKind.i64 0]).length) (.cn (inb rc 10) (.cn (ctsAt (cts Try.prog 91) (0 + rc.toNat * 1) (cts Try.prog 3) && Nat.blt 0 (List.replicate (IntKind.i64.wrap (ra + 1)).toNat [AV.i IntKind.i64 0, AV.i IntKind.i64 0, AV.i IntKind.i64 0, AV.i IntKind.i64 0, AV.i IntKind.i64 0, AV.i IntKind.i64 0, AV.i IntKind.i64 0, AV.i IntKind.i64 0, AV.i IntKind.i64 0, AV.i IntKind.i64 0]).length) (.cn (i81a_0 ra rb rc ps (IntKind.i64.wrap (ra + 1)).toNat 1 ((List.replicate (IntKind.i64.wrap (ra + 1)).toNat [AV.i IntKind.i64 0, AV.i IntKind.i64 0, AV.i IntKind.i64 0, AV.i IntKind.i64 0, AV.i IntKind.i64 0, AV.i IntKind.i64 0, AV.i IntKind.i64 0, AV.i IntKind.i64 0, AV.i IntKind.i64 0, AV.i IntKind.i64 0]).set 0 (setCs ((List.replicate (IntKind.i64.wrap (ra + 1)).toNat [AV.i IntKind.i64 0, AV.i IntKind.i64 0, AV.i IntKind.i64 0, AV.i IntKind.i64 0, AV.i IntKind.i64 0, AV.i IntKind.i64 0, AV.i IntKind.i64 0, AV.i IntKind.i64 0, AV.i IntKind.i64 0, AV.i IntKind.i64 0]).getD 0 []) (0 + rc.toNat * 1) [AV.i IntKind.i64 1]))) (.cn ((0 + (IntKind.i64.wrap (ra + 1)).toNat).ble (v81a_0_m5 ra rb rc ps (IntKind.i64.wrap (ra + 1)).toNat 1 ((List.replicate (IntKind.i64.wrap (ra + 1)).toNat [AV.i IntKind.i64 0, AV.i IntKind.i64 0, AV.i IntKind.i64 0, AV.i IntKind.i64 0, AV.i IntKind.i64 0, AV.i IntKind.i64 0, AV.i IntKind.i64 0, AV.i IntKind.i64 0, AV.i IntKind.i64 0, AV.i IntKind.i64 0]).set 0 (setCs ((List.replicate (IntKind.i64.wrap (ra + 1)).toNat [AV.i IntKind.i64 0, AV.i IntKind.i64 0, AV.i IntKind.i64 0, AV.i IntKind.i64 0, AV.i IntKind.i64 0, AV.i IntKind.i64 0, AV.i IntKind.i64 0, AV.i IntKind.i64 0, AV.i IntKind.i64 0, AV.i IntKind.i64 0]).getD 0 []) (0 + rc.toNat * 1) [AV.i IntKind.i64 1]))).length) (.lf (bif (IntKind.i64.wrap (ra + 1)).toNat.beq (v81a_0_m5 ra rb rc ps (IntKind.i64.wrap (ra + 1)).toNat 1 ((List.replicate (IntKind.i64.wrap (ra + 1)).toNat [AV.i IntKind.i64 0, AV.i IntKind.i64 0, AV.i IntKind.i64 0, AV.i IntKind.i64 0, AV.i IntKind.i64 0, AV.i IntKind.i64 0, AV.i IntKind.i64 0, AV.i IntKind.i64 0, AV.i IntKind.i64 0, AV.i IntKind.i64 0]).set 0 (setCs ((List.replicate (IntKind.i64.wrap (ra + 1)).toNat [AV.i IntKind.i64 0, AV.i IntKind.i64 0, AV.i IntKind.i64 0, AV.i IntKind.i64 0, AV.i IntKind.i64 0, AV.i IntKind.i64 0, AV.i IntKind.i64 0, AV.i IntKind.i64 0, AV.i IntKind.i64 0, AV.i IntKind.i64 0]).getD 0 []) (0 + rc.toNat * 1) [AV.i IntKind.i64 1]))).length then v81a_0_m5 ra rb rc ps (IntKind.i64.wrap (ra + 1)).toNat 1 ((List.replicate (IntKind.i64.wrap (ra + 1)).toNat [AV.i IntKind.i64 0, AV.i IntKind.i64 0, AV.i IntKind.i64 0, AV.i IntKind.i64 0, AV.i IntKind.i64 0, AV.i IntKind.i64 0, AV.i IntKind.i64 0, AV.i IntKind.i64 0, AV.i IntKind.i64 0, AV.i IntKind.i64 0]).set 0 (setCs ((List.replicate (IntKind.i64.wrap (ra + 1)).toNat [AV.i IntKind.i64 0, AV.i IntKind.i64 0, AV.i IntKind.i64 0, AV.i IntKind.i64 0, AV.i IntKind.i64 0, AV.i IntKind.i64 0, AV.i IntKind.i64 0, AV.i IntKind.i64 0, AV.i IntKind.i64 0, AV.i IntKind.i64 0]).getD 0 []) (0 + rc.toNat * 1) [AV.i IntKind.i64 1])) else List.take (IntKind.i64.wrap (ra + 1)).toNat (List.drop 0 (v81a_0_m5 ra rb rc ps (IntKind.i64.wrap (ra + 1)).toNat 1 ((List.replicate (IntKind.i64.wrap (ra + 1)).toNat [AV.i IntKind.i64 0, AV.i IntKind.i64 0, AV.i IntKind.i64 0, AV.i IntKind.i64 0, AV.i IntKind.i64 0, AV.i IntKind.i64 0, AV.i IntKind.i64 0, AV.i IntKind.i64 0, AV.i IntKind.i64 0, AV.i IntKind.i64 0]).set 0 (setCs ((List.replicate (IntKind.i64.wrap (ra + 1)).toNat [AV.i IntKind.i64 0, AV.i IntKind.i64 0, AV.i IntKind.i64 0, AV.i IntKind.i64 0, AV.i IntKind.i64 0, AV.i IntKind.i64 0, AV.i IntKind.i64 0, AV.i IntKind.i64 0, AV.i IntKind.i64 0, AV.i IntKind.i64 0]).getD 0 []) (0 + rc.toNat * 1) [AV.i IntKind.i64 1])))))) (.nn)) (.nn)) (.nn)) (.nn)) (.nn)) (.nn)
noncomputable def g81 (ra rb rc : Int) (ps : List (List AV)) : Bool := (t81 ra rb rc ps).g
noncomputable def w81_0 (ra rb rc : Int) (ps : List (List AV)) : List (List AV) := (t81 ra rb rc ps).val
theorem eq81 (ra rb rc : Int) (ps : List (List AV)) : evF Try.prog Sa (ro 81) L81 Try.f81 [.agg [.i .i64 ra, .i .i64 rb, .i .i64 rc, .rs 31 ps]] = (t81 ra rb rc ps).opt (fun (x : (List (List AV))) => (.rs 91 x : AV)) := by kernel_rfl
theorem con81 (ra rb rc : Int) (ps : List (List AV)) (h : g81 ra rb rc ps = true) : Con Try.prog 81 [.agg [.i .i64 ra, .i .i64 rb, .i .i64 rc, .rs 31 ps]] [] (.rs 91 (w81_0 ra rb rc ps)) [] :=
  con_of Sa_ok mixed Try.func81 (c := c81) rfl (names 81 _ Try.func81) lok81 ((eq81 ra rb rc ps).trans (Tr.sound _ _ h))
noncomputable def e81 (args : List AV) (rows : List Blk) : Option (Bool × AV × List Blk) := match args, rows with
  | [.agg [.i .i64 ra, .i .i64 rb, .i .i64 rc, .rs 31 ps]], [] => some (g81 ra rb rc ps, .rs 91 (w81_0 ra rb rc ps), [])
  | _, _ => none
theorem e81_ok (args : List AV) (rows : List Blk) (pre : Bool) (v : AV) (rows' : List Blk) (h : e81 args rows = some (pre, v, rows')) (hp : pre = true) : Con Try.prog 81 args rows v rows' := by
  unfold e81 at h
  split at h
  · cases h; exact con81 _ _ _ _ hp
  · cases h
-- SPEC 81
end Go.Proofs.Ytgifjphinkbcaaa

set_option maxRecDepth 100000
set_option linter.unusedVariables false
namespace Go.Proofs.Ytgifjphinkbcaaa
open Go Go.Ev
noncomputable def Sb : Ev.Spec := insS 81 e81 (insS 82 e82 (insS 83 e83 (insS 54 e54 (insS 94 e94 (Sa)))))
theorem Sb_ok : SpecOK Try.prog Sb := insS_ok e81_ok (insS_ok e82_ok (insS_ok e83_ok (insS_ok e54_ok (insS_ok e94_ok (Sa_ok)))))
end Go.Proofs.Ytgifjphinkbcaaa

set_option maxRecDepth 100000
set_option linter.unusedVariables false
namespace Go.Proofs.Ytgifjphinkbcaaa
open Go Go.Ev

/-! ### strings.IndexFunc -/
noncomputable def c91 : Code := match Try.f91.body with | some c => c | _ => .skip
theorem lok91 : LOK Try.prog Sb (ro 91) (fun _ _ => none) 0 false c91 [] :=
  lok_lo (fun _ _ _ _ _ _ _ h _ => by cases h) c91 [] false (locate_nil _) (by kernel_rfl)
noncomputable def t91 (nm : ByteArray) : Tr ((Int)) :=
  .cn (g94 nm true) (.lf (w94_0 nm true)) (.nn)
noncomputable def g91 (nm : ByteArray) : Bool := (t91 nm).g
noncomputable def w91_0 (nm : ByteArray) : Int := (t91 nm).val
theorem eq91 (nm : ByteArray) : evF Try.prog Sb (ro 91) (fun _ _ => none) Try.f91 [.s nm, .fn 85 []] = (t91 nm).opt (fun (x : (Int)) => (.i .i64 x : AV)) := by kernel_rfl
theorem con91 (nm : ByteArray) (h : g91 nm = true) : Con Try.prog 91 [.s nm, .fn 85 []] [] (.i .i64 (w91_0 nm)) [] :=
  con_of Sb_ok mixed Try.func91 (c := c91) rfl (names 91 _ Try.func91) lok91 ((eq91 nm).trans (Tr.sound _ _ h))
noncomputable def e91 (args : List AV) (rows : List Blk) : Option (Bool × AV × List Blk) := match args, rows with
  | [.s nm, .fn 85 []], [] => some (g91 nm, .i .i64 (w91_0 nm), [])
  | _, _ => none
theorem e91_ok (args : List AV) (rows : List Blk) (pre : Bool) (v : AV) (rows' : List Blk) (h : e91 args rows = some (pre, v, rows')) (hp : pre = true) : Con Try.prog 91 args rows v rows' := by
  unfold e91 at h
  split at h
  · cases h; exact con91 _ hp
  · cases h
-- SPEC 91
end Go.Proofs.Ytgifjphinkbcaaa

set_option maxRecDepth 100000
set_option linter.unusedVariables false
namespace Go.Proofs.Ytgifjphinkbcaaa
open Go Go.Ev

/-! ### ContainsFunc[Cut] -/
noncomputable def c59 : Code := match Try.f59.body with | some c => c | _ => .skip
theorem lok59 : LOK Try.prog Sb (ro 59) (fun _ _ => none) 0 false c59 [] :=
  lok_lo (fun _ _ _ _ _ _ _ h _ => by cases h) c59 [] false (locate_nil _) (by kernel_rfl)
noncomputable def t59 (xs : List (List AV)) (da db : Int) (cs : List (List AV)) : Tr ((Bool)) :=
  .cn (g83 xs da db cs) (.lf (decide (w83_0 xs da db cs ≥ 0))) (.nn)
noncomputable def g59 (xs : List (List AV)) (da db : Int) (cs : List (List AV)) : Bool := (t59 xs da db cs).g
noncomputable def w59_0 (xs : List (List AV)) (da db : Int) (cs : List (List AV)) : Bool := (t59 xs da db cs).val
theorem eq59 (xs : List (List AV)) (da db : Int) (cs : List (List AV)) : evF Try.prog Sb (ro 59) (fun _ _ => none) Try.f59 [.rs 64 xs, .fn 60 [.rp [.int .i64, .int .i64, .sl 64] [.i .i64 da, .i .i64 db, .rs 64 cs] 0]] = (t59 xs da db cs).opt (fun (x : (Bool)) => (.b x : AV)) := by kernel_rfl
theorem con59 (xs : List (List AV)) (da db : Int) (cs : List (List AV)) (h : g59 xs da db cs = true) : Con Try.prog 59 [.rs 64 xs, .fn 60 [.rp [.int .i64, .int .i64, .sl 64] [.i .i64 da, .i .i64 db, .rs 64 cs] 0]] [] (.b (w59_0 xs da db cs)) [] :=
  con_of Sb_ok mixed Try.func59 (c := c59) rfl (names 59 _ Try.func59) lok59 ((eq59 xs da db cs).trans (Tr.sound _ _ h))
noncomputable def e59 (args : List AV) (rows : List Blk) : Option (Bool × AV × List Blk) := match args, rows with
  | [.rs 64 xs, .fn 60 [.rp [.int .i64, .int .i64, .sl 64] [.i .i64 da, .i .i64 db, .rs 64 cs] 0]], [] => some (g59 xs da db cs, .b (w59_0 xs da db cs), [])
  | _, _ => none
theorem e59_ok (args : List AV) (rows : List Blk) (pre : Bool) (v : AV) (rows' : List Blk) (h : e59 args rows = some (pre, v, rows')) (hp : pre = true) : Con Try.prog 59 args rows v rows' := by
  unfold e59 at h
  split at h
  · cases h; exact con59 _ _ _ _ hp
  · cases h
-- SPEC 59
end Go.Proofs.Ytgifjphinkbcaaa

set_option maxRecDepth 100000
set_option linter.unusedVariables false
namespace Go.Proofs.Ytgifjphinkbcaaa
open Go Go.Ev

/-! ### IndexFunc[int] -/
noncomputable def c73 : Code := match Try.f73.body with | some c => c | _ => .skip
noncomputable def lp73a : Code := loopAt c73 [true, false, true, false]
noncomputable def s73a (xs : List (List AV)) (t4 : Int) (t7 : Int) (t8 : Int) : St :=
  { t := [(0, .rs 3 xs), (1, .fn 54 []), (4, .i .i64 t4), (7, .i .i64 t7), (8, .i .i64 t8)], m := [], nx := 0, nt := 19 }
structure S73a where
  t8 : Int
inductive T73a where
  | x0 (t4' : Int) (t8 : Int)
  | x1 (t8 : Int)
noncomputable def stp73a (xs : List (List AV)) (t4 : Int) (t7 : Int) (t8 : Int) : Lp S73a T73a :=
  cond (decide (t8 < t7)) (cond (inb t8 xs.length) (cond (g54 (fI (xs.getD t8.toNat []) 0)) (cond (w54_0 (fI (xs.getD t8.toNat []) 0)) (.out (.x0 t8 t8)) (.go ⟨IntKind.i64.wrap (t8 + 1)⟩)) (.bad)) (.bad)) (.out (.x1 t8))
noncomputable def o73a_0 (xs : List (List AV)) (t4 : Int) (t7 : Int) (t4' : Int) (t8 : Int) : St :=
  { t := [(0, .rs 3 xs), (1, .fn 54 []), (4, .i .i64 t4'), (7, .i .i64 t7), (8, .i .i64 t8)], m := [], nx := 0, nt := 19 }
noncomputable def o73a_1 (xs : List (List AV)) (t4 : Int) (t7 : Int) (t8 : Int) : St :=
  { t := [(0, .rs 3 xs), (1, .fn 54 []), (4, .i .i64 t4), (7, .i .i64 t7), (8, .i .i64 t8)], m := [], nx := 0, nt := 19 }
noncomputable def ou73a (xs : List (List AV)) (t4 : Int) (t7 : Int) : T73a → Ex × St
  | .x0 t4' t8 => (.ret, o73a_0 xs t4 t7 t4' t8)
  | .x1 t8 => (.ext 0, o73a_1 xs t4 t7 t8)
noncomputable def r73a (xs : List (List AV)) (t4 : Int) (t7 : Int) (t8 : Int) : Option T73a := run (fun x => stp73a xs t4 t7 x.t8) (⟨t8⟩ : S73a)
noncomputable def i73a_0 (xs : List (List AV)) (t4 : Int) (t7 : Int) (t8 : Int) : Bool := match r73a xs t4 t7 t8 with
  | some (.x0 _ _) => true
  | _ => false
noncomputable def v73a_0_t4' (xs : List (List AV)) (t4 : Int) (t7 : Int) (t8 : Int) : Int := match r73a xs t4 t7 t8 with
  | some (.x0 t4' _) => t4'
  | _ => default
noncomputable def v73a_0_t8 (xs : List (List AV)) (t4 : Int) (t7 : Int) (t8 : Int) : Int := match r73a xs t4 t7 t8 with
  | some (.x0 _ t8) => t8
  | _ => default
noncomputable def i73a_1 (xs : List (List AV)) (t4 : Int) (t7 : Int) (t8 : Int) : Bool := match r73a xs t4 t7 t8 with
  | some (.x1 _) => true
  | _ => false
noncomputable def v73a_1_t8 (xs : List (List AV)) (t4 : Int) (t7 : Int) (t8 : Int) : Int := match r73a xs t4 t7 t8 with
  | some (.x1 t8) => t8
  | _ => default
noncomputable def l73a (st : St) : Option (List (Bool × Ex × St)) := match normW Try.prog [(0, none), (1, none), (4, none), (7, none), (8, none)] 0 st with
  | some ([.rs 3 xs, .fn 54 [], .i .i64 t4, .i .i64 t7, .i .i64 t8], [], 0, 19) => some [(i73a_0 xs t4 t7 t8, .ret, o73a_0 xs t4 t7 (v73a_0_t4' xs t4 t7 t8) (v73a_0_t8 xs t4 t7 t8)), (i73a_1 xs t4 t7 t8, .ext 0, o73a_1 xs t4 t7 (v73a_1_t8 xs t4 t7 t8))]
  | _ => none
noncomputable def L73 : LSpec := fun p st => match p with
  | [false, true, false, true] => l73a st
  | _ => none
theorem is73a_0 (xs : List (List AV)) (t4 : Int) (t7 : Int) (t8 : Int) (h : i73a_0 xs t4 t7 t8 = true) : r73a xs t4 t7 t8 = some (.x0 (v73a_0_t4' xs t4 t7 t8) (v73a_0_t8 xs t4 t7 t8)) := by
  unfold i73a_0 at h
  unfold v73a_0_t4' v73a_0_t8
  generalize r73a xs t4 t7 t8 = r at h ⊢
  rcases r with _ | y
  · cases h
  · cases y <;> first | rfl | cases h
theorem is73a_1 (xs : List (List AV)) (t4 : Int) (t7 : Int) (t8 : Int) (h : i73a_1 xs t4 t7 t8 = true) : r73a xs t4 t7 t8 = some (.x1 (v73a_1_t8 xs t4 t7 t8)) := by
  unfold i73a_1 at h
  unfold v73a_1_t8
  generalize r73a xs t4 t7 t8 = r at h ⊢
  rcases r with _ | y
  · cases h
  · cases y <;> first | rfl | cases h
theorem round73a (xs : List (List AV)) (t4 : Int) (t7 : Int) (t8 : Int) : round Try.prog Sb (ro 73) L73 lp73a [false, true, false, true] [(0, none), (1, none), (4, none), (7, none), (8, none)] 0 (s73a xs t4 t7 t8) =
    cond (decide (t8 < t7)) (cond (inb t8 xs.length) (cond (g54 (fI (xs.getD t8.toNat []) 0)) (cond (w54_0 (fI (xs.getD t8.toNat []) 0)) (some (.ret, o73a_0 xs t4 t7 t8 t8)) (some (.nrm, s73a xs t4 t7 (IntKind.i64.wrap (t8 + 1))))) (none)) (none)) (some (.ext 0, o73a_1 xs t4 t7 t8)) := by kernel_rfl
theorem rnd73a (xs : List (List AV)) (t4 : Int) (t7 : Int) (x : S73a) : round Try.prog Sb (ro 73) L73 lp73a [false, true, false, true] [(0, none), (1, none), (4, none), (7, none), (8, none)] 0 ((fun x => s73a xs t4 t7 x.t8) x) = toR (fun x => s73a xs t4 t7 x.t8) (ou73a xs t4 t7) (stp73a xs t4 t7 x.t8) := by
  refine (round73a _ _ _ _ ).trans ?_
  unfold stp73a
  simp only [toR_cond]
  rfl
theorem lok73a {st : St} {outs : List (Bool × Ex × St)} {e : Ex} {s : St} (hl : l73a st = some outs) (hch : Chosen outs e s) :
    ∃ keep nb, 0 ≤ nb ∧ LB Try.prog Sb (ro 73) L73 lp73a [false, true, false, true] keep nb st e s := by
  unfold l73a at hl
  split at hl
  · rename_i xs t4 t7 t8 hno
    cases hl
    have hno := normW_norm hno
    refine ⟨_, _, ?_, .enter hno ?_⟩
    · decide
    have main := fun y h => LB_run (x := (⟨t8⟩ : S73a)) (y := y) (nb := 0) (fun y => by cases y <;> simp [ou73a]) (rnd73a xs t4 t7) h
    obtain ⟨x, hx, hg, rfl, rfl⟩ := chosen_any hch
    simp only [List.mem_cons, List.not_mem_nil, or_false] at hx
    rcases hx with rfl | rfl
    · exact main _ (is73a_0 xs t4 t7 t8 hg)
    · exact main _ (is73a_1 xs t4 t7 t8 hg)
  · cases hl
theorem L73_ok (q : Pl) (c : Code) (hq : locate c73 q.reverse = some (.loop c)) (st : St) (outs : List (Bool × Ex × St)) (e : Ex) (s : St) (hl : L73 q st = some outs) (hch : Chosen outs e s) :
    ∃ keep nb, 0 ≤ nb ∧ LB Try.prog Sb (ro 73) L73 c q keep nb st e s := by
  unfold L73 at hl
  split at hl
  · have : locate c73 ([false, true, false, true] : Pl).reverse = some (.loop lp73a) := by kernel_rfl
    rw [this] at hq
    cases hq
    exact lok73a hl hch
  · cases hl
theorem lok73 : LOK Try.prog Sb (ro 73) L73 0 false c73 [] :=
  lok_lo L73_ok c73 [] false (locate_nil _) (by kernel_rfl)
noncomputable def t73 (xs : List (List AV)) : Tr ((Int)) :=
  .cn (i73a_0 xs 0 (↑xs.length : Int) 0) (.lf (v73a_0_t4' xs 0 (↑xs.length : Int) 0)) (.cn (i73a_1 xs 0 (↑xs.length : Int) 0) (.lf (-1)) (.nn))
noncomputable def g73 (xs : List (List AV)) : Bool := (t73 xs).g
noncomputable def w73_0 (xs : List (List AV)) : Int := (t73 xs).val
theorem eq73 (xs : List (List AV)) : evF Try.prog Sb (ro 73) L73 Try.f73 [.rs 3 xs, .fn 54 []] = (t73 xs).opt (fun (x : (Int)) => (.i .i64 x : AV)) := by kernel_rfl
theorem con73 (xs : List (List AV)) (h : g73 xs = true) : Con Try.prog 73 [.rs 3 xs, .fn 54 []] [] (.i .i64 (w73_0 xs)) [] :=
  con_of Sb_ok mixed Try.func73 (c := c73) rfl (names 73 _ Try.func73) lok73 ((eq73 xs).trans (Tr.sound _ _ h))
noncomputable def e73 (args : List AV) (rows : List Blk) : Option (Bool × AV × List Blk) := match args, rows with
  | [.rs 3 xs, .fn 54 []], [] => some (g73 xs, .i .i64 (w73_0 xs), [])
  | _, _ => none
theorem e73_ok (args : List AV) (rows : List Blk) (pre : Bool) (v : AV) (rows' : List Blk) (h : e73 args rows = some (pre, v, rows')) (hp : pre = true) : Con Try.prog 73 args rows v rows' := by
  unfold e73 at h
  split at h
  · cases h; exact con73 _ hp
  · cases h
-- SPEC 73
end Go.Proofs.Ytgifjphinkbcaaa

set_option maxRecDepth 100000
set_option linter.unusedVariables false
namespace Go.Proofs.Ytgifjphinkbcaaa
open Go Go.Ev
noncomputable def Sc : Ev.Spec := insS 73 e73 (insS 59 e59 (insS 91 e91 (Sb)))
theorem Sc_ok : SpecOK Try.prog Sc := insS_ok e73_ok (insS_ok e59_ok (insS_ok e91_ok (Sb_ok)))
end Go.Proofs.Ytgifjphinkbcaaa
