/-
  For each area, rules, make and rods: where the area is laid and its coat has at most nine courses, as many rods are needed as courses by how many sways a rod holds, rounded up; for all arguments, no conditions.
-/
import Derived.Test.YtkdiaipaajgcbaaPd
import Derived.Test.YtkdiaipaajgcbaaTa
import Derived.Test.YtkdiaipaajgcbaaPe
import Derived.Test.YtkdiaipaajgcbaaPc
set_option linter.unusedVariables false
set_option maxRecDepth 100000
set_option maxHeartbeats 0
set_option linter.unusedVariables false
namespace Go.Proofs.Ytkdiaipaajgcbaa
open Go Go.Ev

noncomputable def c32y : Code := match Try.f32.body with | some c => c | _ => .skip
theorem lok32y : LOK Try.prog S0 (ro 32) (fun _ _ => none) 0 false c32y [] :=
  lok_lo (fun _ _ _ _ _ _ _ h _ => by cases h) c32y [] false (locate_nil _) (by kernel_rfl)
noncomputable def t32y (a b c : Int) : Tr ((Bool)) :=
  .cn (decide (b ≤ a)) (.lf (decide (a ≤ c))) (.lf (false))
noncomputable def g32y (a b c : Int) : Bool := (t32y a b c).g
noncomputable def w32y_0 (a b c : Int) : Bool := (t32y a b c).val
theorem eq32y (a b c : Int) : evF Try.prog S0 (ro 32) (fun _ _ => none) Try.f32 [.i .i64 a, .i .i64 b, .i .i64 c] = (t32y a b c).opt (fun (x : (Bool)) => (.b x : AV)) := by kernel_rfl
theorem con32y (a b c : Int) (h : g32y a b c = true) : Con Try.prog 32 [.i .i64 a, .i .i64 b, .i .i64 c] [] (.b (w32y_0 a b c)) [] :=
  con_of S0_ok mixed Try.func32 (c := c32y) rfl (names 32 _ Try.func32) lok32y ((eq32y a b c).trans (Tr.sound _ _ h))
noncomputable def e32y (args : List AV) (rows : List Blk) : Option (Bool × AV × List Blk) := match args, rows with
  | [.i .i64 a, .i .i64 b, .i .i64 c], [] => some (g32y a b c, .b (w32y_0 a b c), [])
  | _, _ => none
theorem e32y_ok (args : List AV) (rows : List Blk) (pre : Bool) (v : AV) (rows' : List Blk) (h : e32y args rows = some (pre, v, rows')) (hp : pre = true) : Con Try.prog 32 args rows v rows' := by
  unfold e32y at h
  split at h
  · cases h; exact con32y _ _ _ hp
  · cases h
-- SPEC 32
end Go.Proofs.Ytkdiaipaajgcbaa

set_option maxRecDepth 100000
set_option maxHeartbeats 0
set_option linter.unusedVariables false
namespace Go.Proofs.Ytkdiaipaajgcbaa
open Go Go.Ev

noncomputable def c36y : Code := match Try.f36.body with | some c => c | _ => .skip
theorem lok36y : LOK Try.prog S0 (ro 36) (fun _ _ => none) 0 false c36y [] :=
  lok_lo (fun _ _ _ _ _ _ _ h _ => by cases h) c36y [] false (locate_nil _) (by kernel_rfl)
noncomputable def t36y (lo hi a b : Int) : Tr ((Bool)) :=
  .cn (decide (a ≤ lo)) (.cn (decide (lo ≤ hi)) (.lf (decide (hi ≤ b))) (.lf (false))) (.lf (false))
noncomputable def g36y (lo hi a b : Int) : Bool := (t36y lo hi a b).g
noncomputable def w36y_0 (lo hi a b : Int) : Bool := (t36y lo hi a b).val
theorem eq36y (lo hi a b : Int) : evF Try.prog S0 (ro 36) (fun _ _ => none) Try.f36 [.agg [.i .i64 lo, .i .i64 hi], .i .i64 a, .i .i64 b] = (t36y lo hi a b).opt (fun (x : (Bool)) => (.b x : AV)) := by kernel_rfl
theorem con36y (lo hi a b : Int) (h : g36y lo hi a b = true) : Con Try.prog 36 [.agg [.i .i64 lo, .i .i64 hi], .i .i64 a, .i .i64 b] [] (.b (w36y_0 lo hi a b)) [] :=
  con_of S0_ok mixed Try.func36 (c := c36y) rfl (names 36 _ Try.func36) lok36y ((eq36y lo hi a b).trans (Tr.sound _ _ h))
noncomputable def e36y (args : List AV) (rows : List Blk) : Option (Bool × AV × List Blk) := match args, rows with
  | [.agg [.i .i64 lo, .i .i64 hi], .i .i64 a, .i .i64 b], [] => some (g36y lo hi a b, .b (w36y_0 lo hi a b), [])
  | _, _ => none
theorem e36y_ok (args : List AV) (rows : List Blk) (pre : Bool) (v : AV) (rows' : List Blk) (h : e36y args rows = some (pre, v, rows')) (hp : pre = true) : Con Try.prog 36 args rows v rows' := by
  unfold e36y at h
  split at h
  · cases h; exact con36y _ _ _ _ hp
  · cases h
-- SPEC 36
end Go.Proofs.Ytkdiaipaajgcbaa

set_option maxRecDepth 100000
set_option maxHeartbeats 0
set_option linter.unusedVariables false
namespace Go.Proofs.Ytkdiaipaajgcbaa
open Go Go.Ev

noncomputable def c45y : Code := match Try.f45.body with | some c => c | _ => .skip
noncomputable def lp45ya : Code := loopAt c45y [true, false, true, false]
noncomputable def s45ya (os : List (List AV)) (u v t4 t7 t8 : Int) : St :=
  { t := [(0, .rs 42 os), (3, .rp [.int .i64, .int .i64] [.i .i64 u, .i .i64 v] 0), (4, .i .i64 t4), (7, .i .i64 t7), (8, .i .i64 t8)], m := [], nx := 0, nt := 19 }
structure S45ya where
  t8 : Int
inductive T45ya where
  | x0 (t4' : Int) (t8 : Int)
  | x1 (t8 : Int)
noncomputable def stp45ya (os : List (List AV)) (u v t4 t7 t8 : Int) : Lp S45ya T45ya :=
  cond (decide (t8 < t7)) (cond (inb t8 os.length) (cond (u == fI (os.getD t8.toNat []) 0 && v == fI (os.getD t8.toNat []) 1) (.out (.x0 t8 t8)) (.go ⟨IntKind.i64.wrap (t8 + 1)⟩)) (.bad)) (.out (.x1 t8))
noncomputable def o45ya_0 (os : List (List AV)) (u v t4 t7 t4' t8 : Int) : St :=
  { t := [(0, .rs 42 os), (3, .rp [.int .i64, .int .i64] [.i .i64 u, .i .i64 v] 0), (4, .i .i64 t4'), (7, .i .i64 t7), (8, .i .i64 t8)], m := [], nx := 0, nt := 19 }
noncomputable def o45ya_1 (os : List (List AV)) (u v t4 t7 t8 : Int) : St :=
  { t := [(0, .rs 42 os), (3, .rp [.int .i64, .int .i64] [.i .i64 u, .i .i64 v] 0), (4, .i .i64 t4), (7, .i .i64 t7), (8, .i .i64 t8)], m := [], nx := 0, nt := 19 }
noncomputable def ou45ya (os : List (List AV)) (u v t4 t7 : Int) : T45ya → Ex × St
  | .x0 t4' t8 => (.ret, o45ya_0 os u v t4 t7 t4' t8)
  | .x1 t8 => (.ext 0, o45ya_1 os u v t4 t7 t8)
noncomputable def r45ya (os : List (List AV)) (u v t4 t7 t8 : Int) : Option T45ya := run (fun x => stp45ya os u v t4 t7 x.t8) (⟨t8⟩ : S45ya)
noncomputable def i45ya_0 (os : List (List AV)) (u v t4 t7 t8 : Int) : Bool := match r45ya os u v t4 t7 t8 with
  | some (.x0 _ _) => true
  | _ => false
noncomputable def v45ya_0_t4' (os : List (List AV)) (u v t4 t7 t8 : Int) : Int := match r45ya os u v t4 t7 t8 with
  | some (.x0 t4' _) => t4'
  | _ => default
noncomputable def v45ya_0_t8 (os : List (List AV)) (u v t4 t7 t8 : Int) : Int := match r45ya os u v t4 t7 t8 with
  | some (.x0 _ t8) => t8
  | _ => default
noncomputable def i45ya_1 (os : List (List AV)) (u v t4 t7 t8 : Int) : Bool := match r45ya os u v t4 t7 t8 with
  | some (.x1 _) => true
  | _ => false
noncomputable def v45ya_1_t8 (os : List (List AV)) (u v t4 t7 t8 : Int) : Int := match r45ya os u v t4 t7 t8 with
  | some (.x1 t8) => t8
  | _ => default
noncomputable def l45ya (st : St) : Option (List (Bool × Ex × St)) := match normW Try.prog [(0, none), (3, none), (4, none), (7, none), (8, none)] 0 st with
  | some ([.rs 42 os, .rp [.int .i64, .int .i64] [.i .i64 u, .i .i64 v] 0, .i .i64 t4, .i .i64 t7, .i .i64 t8], [], 0, 19) => some [(i45ya_0 os u v t4 t7 t8, .ret, o45ya_0 os u v t4 t7 (v45ya_0_t4' os u v t4 t7 t8) (v45ya_0_t8 os u v t4 t7 t8)), (i45ya_1 os u v t4 t7 t8, .ext 0, o45ya_1 os u v t4 t7 (v45ya_1_t8 os u v t4 t7 t8))]
  | _ => none
noncomputable def L45y : LSpec := fun p st => match p with
  | [false, true, false, true] => l45ya st
  | _ => none
theorem is45ya_0 (os : List (List AV)) (u v t4 t7 t8 : Int) (h : i45ya_0 os u v t4 t7 t8 = true) : r45ya os u v t4 t7 t8 = some (.x0 (v45ya_0_t4' os u v t4 t7 t8) (v45ya_0_t8 os u v t4 t7 t8)) := by
  unfold i45ya_0 at h
  unfold v45ya_0_t4' v45ya_0_t8
  generalize r45ya os u v t4 t7 t8 = r at h ⊢
  rcases r with _ | y
  · cases h
  · cases y <;> first | rfl | cases h
theorem is45ya_1 (os : List (List AV)) (u v t4 t7 t8 : Int) (h : i45ya_1 os u v t4 t7 t8 = true) : r45ya os u v t4 t7 t8 = some (.x1 (v45ya_1_t8 os u v t4 t7 t8)) := by
  unfold i45ya_1 at h
  unfold v45ya_1_t8
  generalize r45ya os u v t4 t7 t8 = r at h ⊢
  rcases r with _ | y
  · cases h
  · cases y <;> first | rfl | cases h
theorem round45ya (os : List (List AV)) (u v t4 t7 t8 : Int) : round Try.prog S0 (ro 45) L45y lp45ya [false, true, false, true] [(0, none), (3, none), (4, none), (7, none), (8, none)] 0 (s45ya os u v t4 t7 t8) =
    cond (decide (t8 < t7)) (cond (inb t8 os.length) (cond (u == fI (os.getD t8.toNat []) 0 && v == fI (os.getD t8.toNat []) 1) (some (.ret, o45ya_0 os u v t4 t7 t8 t8)) (some (.nrm, s45ya os u v t4 t7 (IntKind.i64.wrap (t8 + 1))))) (none)) (some (.ext 0, o45ya_1 os u v t4 t7 t8)) := by kernel_rfl
theorem rnd45ya (os : List (List AV)) (u v t4 t7 : Int) (x : S45ya) : round Try.prog S0 (ro 45) L45y lp45ya [false, true, false, true] [(0, none), (3, none), (4, none), (7, none), (8, none)] 0 ((fun x => s45ya os u v t4 t7 x.t8) x) = toR (fun x => s45ya os u v t4 t7 x.t8) (ou45ya os u v t4 t7) (stp45ya os u v t4 t7 x.t8) := by
  refine (round45ya _ _ _ _ _ _ ).trans ?_
  unfold stp45ya
  simp only [toR_cond]
  rfl
theorem lok45ya {st : St} {outs : List (Bool × Ex × St)} {e : Ex} {s : St} (hl : l45ya st = some outs) (hch : Chosen outs e s) :
    ∃ keep nb, 0 ≤ nb ∧ LB Try.prog S0 (ro 45) L45y lp45ya [false, true, false, true] keep nb st e s := by
  unfold l45ya at hl
  split at hl
  · rename_i os u v t4 t7 t8 hno
    cases hl
    have hno := normW_norm hno
    refine ⟨_, _, ?_, .enter hno ?_⟩
    · decide
    have main := fun y h => LB_run (x := (⟨t8⟩ : S45ya)) (y := y) (nb := 0) (fun y => by cases y <;> simp [ou45ya]) (rnd45ya os u v t4 t7) h
    obtain ⟨x, hx, hg, rfl, rfl⟩ := chosen_any hch
    simp only [List.mem_cons, List.not_mem_nil, or_false] at hx
    rcases hx with rfl | rfl
    · exact main _ (is45ya_0 os u v t4 t7 t8 hg)
    · exact main _ (is45ya_1 os u v t4 t7 t8 hg)
  · cases hl
theorem L45y_ok (q : Pl) (c : Code) (hq : locate c45y q.reverse = some (.loop c)) (st : St) (outs : List (Bool × Ex × St)) (e : Ex) (s : St) (hl : L45y q st = some outs) (hch : Chosen outs e s) :
    ∃ keep nb, 0 ≤ nb ∧ LB Try.prog S0 (ro 45) L45y c q keep nb st e s := by
  unfold L45y at hl
  split at hl
  · have : locate c45y ([false, true, false, true] : Pl).reverse = some (.loop lp45ya) := by kernel_rfl
    rw [this] at hq
    cases hq
    exact lok45ya hl hch
  · cases hl
theorem lok45y : LOK Try.prog S0 (ro 45) L45y 0 false c45y [] :=
  lok_lo L45y_ok c45y [] false (locate_nil _) (by kernel_rfl)
noncomputable def t45y (os : List (List AV)) (u v : Int) : Tr ((Int)) :=
  .cn (i45ya_0 os u v 0 (↑os.length : Int) 0) (.lf (v45ya_0_t4' os u v 0 (↑os.length : Int) 0)) (.cn (i45ya_1 os u v 0 (↑os.length : Int) 0) (.lf (-1)) (.nn))
noncomputable def g45y (os : List (List AV)) (u v : Int) : Bool := (t45y os u v).g
noncomputable def w45y_0 (os : List (List AV)) (u v : Int) : Int := (t45y os u v).val
theorem eq45y (os : List (List AV)) (u v : Int) : evF Try.prog S0 (ro 45) L45y Try.f45 [.rs 42 os, .agg [.i .i64 u, .i .i64 v]] = (t45y os u v).opt (fun (x : (Int)) => (.i .i64 x : AV)) := by kernel_rfl
theorem con45y (os : List (List AV)) (u v : Int) (h : g45y os u v = true) : Con Try.prog 45 [.rs 42 os, .agg [.i .i64 u, .i .i64 v]] [] (.i .i64 (w45y_0 os u v)) [] :=
  con_of S0_ok mixed Try.func45 (c := c45y) rfl (names 45 _ Try.func45) lok45y ((eq45y os u v).trans (Tr.sound _ _ h))
noncomputable def e45y (args : List AV) (rows : List Blk) : Option (Bool × AV × List Blk) := match args, rows with
  | [.rs 42 os, .agg [.i .i64 u, .i .i64 v]], [] => some (g45y os u v, .i .i64 (w45y_0 os u v), [])
  | _, _ => none
theorem e45y_ok (args : List AV) (rows : List Blk) (pre : Bool) (v : AV) (rows' : List Blk) (h : e45y args rows = some (pre, v, rows')) (hp : pre = true) : Con Try.prog 45 args rows v rows' := by
  unfold e45y at h
  split at h
  · cases h; exact con45y _ _ _ hp
  · cases h
-- SPEC 45
end Go.Proofs.Ytkdiaipaajgcbaa

set_option maxRecDepth 100000
set_option maxHeartbeats 0
set_option linter.unusedVariables false
namespace Go.Proofs.Ytkdiaipaajgcbaa
open Go Go.Ev

noncomputable def c46y : Code := match Try.f46.body with | some c => c | _ => .skip
theorem lok46y : LOK Try.prog S0 (ro 46) (fun _ _ => none) 0 false c46y [] :=
  lok_lo (fun _ _ _ _ _ _ _ h _ => by cases h) c46y [] false (locate_nil _) (by kernel_rfl)
noncomputable def t46y (os : List (List AV)) : Tr ((List (List AV))) :=
  .lf (os)
noncomputable def g46y (os : List (List AV)) : Bool := (t46y os).g
noncomputable def w46y_0 (os : List (List AV)) : List (List AV) := (t46y os).val
theorem eq46y (os : List (List AV)) : evF Try.prog S0 (ro 46) (fun _ _ => none) Try.f46 [.rs 42 os] = (t46y os).opt (fun (x : (List (List AV))) => (.fn 54 [.rp [.sl 42] [.rs 42 x] 0] : AV)) := by kernel_rfl
theorem con46y (os : List (List AV)) (h : g46y os = true) : Con Try.prog 46 [.rs 42 os] [] (.fn 54 [.rp [.sl 42] [.rs 42 (w46y_0 os)] 0]) [] :=
  con_of S0_ok mixed Try.func46 (c := c46y) rfl (names 46 _ Try.func46) lok46y ((eq46y os).trans (Tr.sound _ _ h))
noncomputable def e46y (args : List AV) (rows : List Blk) : Option (Bool × AV × List Blk) := match args, rows with
  | [.rs 42 os], [] => some (g46y os, .fn 54 [.rp [.sl 42] [.rs 42 (w46y_0 os)] 0], [])
  | _, _ => none
theorem e46y_ok (args : List AV) (rows : List Blk) (pre : Bool) (v : AV) (rows' : List Blk) (h : e46y args rows = some (pre, v, rows')) (hp : pre = true) : Con Try.prog 46 args rows v rows' := by
  unfold e46y at h
  split at h
  · cases h; exact con46y _ hp
  · cases h
-- SPEC 46
end Go.Proofs.Ytkdiaipaajgcbaa

set_option maxRecDepth 100000
set_option maxHeartbeats 0
set_option linter.unusedVariables false
namespace Go.Proofs.Ytkdiaipaajgcbaa
open Go Go.Ev

noncomputable def c35y : Code := match Try.f35.body with | some c => c | _ => .skip
theorem lok35y : LOK Try.prog S0 (ro 35) (fun _ _ => none) 0 false c35y [] :=
  lok_lo (fun _ _ _ _ _ _ _ h _ => by cases h) c35y [] false (locate_nil _) (by kernel_rfl)
noncomputable def t35y (au av bu bv cu cv : Int) : Tr ((Int)) :=
  .lf (IntKind.i64.wrap (IntKind.i64.wrap (IntKind.i64.wrap (bu - au) * IntKind.i64.wrap (cv - av)) - IntKind.i64.wrap (IntKind.i64.wrap (bv - av) * IntKind.i64.wrap (cu - au))))
noncomputable def g35y (au av bu bv cu cv : Int) : Bool := (t35y au av bu bv cu cv).g
noncomputable def w35y_0 (au av bu bv cu cv : Int) : Int := (t35y au av bu bv cu cv).val
theorem eq35y (au av bu bv cu cv : Int) : evF Try.prog S0 (ro 35) (fun _ _ => none) Try.f35 [.agg [.i .i64 au, .i .i64 av], .agg [.i .i64 bu, .i .i64 bv], .agg [.i .i64 cu, .i .i64 cv]] = (t35y au av bu bv cu cv).opt (fun (x : (Int)) => (.i .i64 x : AV)) := by kernel_rfl
theorem con35y (au av bu bv cu cv : Int) (h : g35y au av bu bv cu cv = true) : Con Try.prog 35 [.agg [.i .i64 au, .i .i64 av], .agg [.i .i64 bu, .i .i64 bv], .agg [.i .i64 cu, .i .i64 cv]] [] (.i .i64 (w35y_0 au av bu bv cu cv)) [] :=
  con_of S0_ok mixed Try.func35 (c := c35y) rfl (names 35 _ Try.func35) lok35y ((eq35y au av bu bv cu cv).trans (Tr.sound _ _ h))
noncomputable def e35y (args : List AV) (rows : List Blk) : Option (Bool × AV × List Blk) := match args, rows with
  | [.agg [.i .i64 au, .i .i64 av], .agg [.i .i64 bu, .i .i64 bv], .agg [.i .i64 cu, .i .i64 cv]], [] => some (g35y au av bu bv cu cv, .i .i64 (w35y_0 au av bu bv cu cv), [])
  | _, _ => none
theorem e35y_ok (args : List AV) (rows : List Blk) (pre : Bool) (v : AV) (rows' : List Blk) (h : e35y args rows = some (pre, v, rows')) (hp : pre = true) : Con Try.prog 35 args rows v rows' := by
  unfold e35y at h
  split at h
  · cases h; exact con35y _ _ _ _ _ _ hp
  · cases h
-- SPEC 35
end Go.Proofs.Ytkdiaipaajgcbaa

set_option maxRecDepth 100000
set_option linter.unusedVariables false
namespace Go.Proofs.Ytkdiaipaajgcbaa
open Go Go.Ev
noncomputable def SY1 : Ev.Spec := insS 35 e35y (insS 46 e46y (insS 45 e45y (insS 36 e36y (insS 32 e32y (S0)))))
theorem SY1_ok : SpecOK Try.prog SY1 := insS_ok e35y_ok (insS_ok e46y_ok (insS_ok e45y_ok (insS_ok e36y_ok (insS_ok e32y_ok (S0_ok)))))
end Go.Proofs.Ytkdiaipaajgcbaa

set_option maxRecDepth 100000
set_option maxHeartbeats 0
set_option linter.unusedVariables false
namespace Go.Proofs.Ytkdiaipaajgcbaa
open Go Go.Ev

noncomputable def c33y : Code := match Try.f33.body with | some c => c | _ => .skip
theorem lok33y : LOK Try.prog SY1 (ro 33) (fun _ _ => none) 0 false c33y [] :=
  lok_lo (fun _ _ _ _ _ _ _ h _ => by cases h) c33y [] false (locate_nil _) (by kernel_rfl)
noncomputable def t33y (os : List (List AV)) (u v : Int) : Tr ((Bool)) :=
  .cn (g45y os u v) (.lf (decide (w45y_0 os u v ≥ 0))) (.nn)
noncomputable def g33y (os : List (List AV)) (u v : Int) : Bool := (t33y os u v).g
noncomputable def w33y_0 (os : List (List AV)) (u v : Int) : Bool := (t33y os u v).val
theorem eq33y (os : List (List AV)) (u v : Int) : evF Try.prog SY1 (ro 33) (fun _ _ => none) Try.f33 [.rs 42 os, .agg [.i .i64 u, .i .i64 v]] = (t33y os u v).opt (fun (x : (Bool)) => (.b x : AV)) := by kernel_rfl
theorem con33y (os : List (List AV)) (u v : Int) (h : g33y os u v = true) : Con Try.prog 33 [.rs 42 os, .agg [.i .i64 u, .i .i64 v]] [] (.b (w33y_0 os u v)) [] :=
  con_of SY1_ok mixed Try.func33 (c := c33y) rfl (names 33 _ Try.func33) lok33y ((eq33y os u v).trans (Tr.sound _ _ h))
noncomputable def e33y (args : List AV) (rows : List Blk) : Option (Bool × AV × List Blk) := match args, rows with
  | [.rs 42 os, .agg [.i .i64 u, .i .i64 v]], [] => some (g33y os u v, .b (w33y_0 os u v), [])
  | _, _ => none
theorem e33y_ok (args : List AV) (rows : List Blk) (pre : Bool) (v : AV) (rows' : List Blk) (h : e33y args rows = some (pre, v, rows')) (hp : pre = true) : Con Try.prog 33 args rows v rows' := by
  unfold e33y at h
  split at h
  · cases h; exact con33y _ _ _ hp
  · cases h
-- SPEC 33
end Go.Proofs.Ytkdiaipaajgcbaa

set_option maxRecDepth 100000
set_option linter.unusedVariables false
namespace Go.Proofs.Ytkdiaipaajgcbaa
open Go Go.Ev
noncomputable def sI (es : List (List AV)) (l i : Nat) : St := { t := [(0, .yl l), (1, .rp [.sl 42] [.rs 42 es] 0), (5, .rs 42 es), (6, .i .i64 es.length), (7, .i .i64 i)], m := [], nx := 0, nt := 25 }
def encS (x : List AV) : List AV := [.agg [.i .i64 (fI x 0), .i .i64 (fI x 1)], .agg [.i .i64 (fI x 2), .i .i64 (fI x 3)]]
def sideX (es : List (List AV)) (i j : Nat) : List AV := [.i .i64 (fI (es.getD i []) 0), .i .i64 (fI (es.getD i []) 1), .i .i64 (fI (es.getD j []) 0), .i .i64 (fI (es.getD j []) 1)]
def sidesX (es : List (List AV)) : List (List AV) := (List.range es.length).map fun i => sideX es i ((i + 1) % es.length)
def okS (es : List (List AV)) : Bool := Nat.ble es.length 9223372036854775806 && (sidesX es).all fun x => plainL (encS x)
theorem encS_len {l : List (List AV)} {x : List AV} (h : x ∈ l.map encS) : x.length = 2 := by
  obtain ⟨y, _, rfl⟩ := List.mem_map.1 h
  rfl
noncomputable def sr1 : Code := match Try.f54.body with | some (.seq _ (.block 0 (.loop (.seq a _)))) => a | _ => .skip
noncomputable def sr2 : Code := match Try.f54.body with | some (.seq _ (.block 0 (.loop (.seq _ (.seq _ (.seq (.block 1 (.seq a _)) _)))))) => a | _ => .skip
noncomputable def sr4 : Code := match Try.f54.body with | some (.seq _ (.block 0 (.loop (.seq _ (.seq _ (.seq _ a)))))) => a | _ => .skip
noncomputable def sops : Array Oper := match Try.f54.body with | some (.seq _ (.block 0 (.loop (.seq _ (.seq _ (.seq (.block 1 (.seq _ (.seq (.region _ o _) _))) _)))))) => o | _ => #[]
noncomputable def sr0 : Code := match Try.f54.body with | some (.seq a _) => a | _ => .skip
abbrev sK : List (Nat × Option TypeId) := [(0, none), (1, none), (5, none), (6, none), (7, none)]
theorem sides_eq (es : List (List AV)) (l i : Nat) : sliceT Try.prog S0 (ro 54) (fun _ _ => none) sr1 sr2 8 sops 10 12 [13, 21] sK (sI es l i) =
    cond (decide ((i : Int) < (es.length : Int))) (cond (inb i es.length) (cond (decide ((es.length : Int) = 0)) none (cond (inb ((IntKind.i64.wrap ((i : Int) + 1)).tmod es.length) es.length)
      (some (some (.yl l, encS (sideX es i ((IntKind.i64.wrap ((i : Int) + 1)).tmod es.length).toNat), sI es l i))) none)) none) (some none) := by kernel_rfl
theorem sides_eq4 (es : List (List AV)) (l i : Nat) : afterR Try.prog S0 (ro 54) (fun _ _ => none) sr4 sK (sI es l i) =
    some { t := [(0, .yl l), (1, .rp [.sl 42] [.rs 42 es] 0), (5, .rs 42 es), (6, .i .i64 es.length), (7, .i .i64 (IntKind.i64.wrap ((i : Int) + 1)))], m := [], nx := 0, nt := 25 } := by kernel_rfl
theorem sides_eq0 (es : List (List AV)) (l : Nat) : afterR Try.prog S0 (ro 54) (fun _ _ => none) sr0 sK (initSt 25 [.yl l, .rp [.sl 42] [.rs 42 es] 0] []) = some (sI es l 0) := by kernel_rfl
theorem wrap_ids {x : Int} (h0 : -9223372036854775808 ≤ x) (h1 : x ≤ 9223372036854775807) : IntKind.i64.wrap x = x := by
  simp only [IntKind.wrap, IntKind.signed, IntKind.bits]
  simp
  omega
theorem cut_of {ops : Array Oper} {c m : Nat} (hs : ops.size = c + m) (h : (List.range' c m).all (fun j => Nat.beq ((befs ops).getD j 0) (2 ^ j - 1)) = true) : ∀ j o, ops[j]? = some o → c ≤ j → ∀ i, i < j → bef ops j i := by
  intro j o ho hj i hi
  have hlt := (Array.getElem?_eq_some_iff.1 ho).1
  have := Nat.eq_of_beq_eq_true (List.all_eq_true.1 h j (List.mem_range'_1.2 ⟨hj, by omega⟩))
  unfold bef
  rw [this, Nat.testBit_two_pow_sub_one]
  simpa using hi
theorem sidesX_len (es : List (List AV)) : (sidesX es).length = es.length := by simp [sidesX]
theorem sidesX_at {es : List (List AV)} {i : Nat} (hi : i < es.length) : (sidesX es).getD i [] = sideX es i ((i + 1) % es.length) := by simp [sidesX, List.getD_eq_getElem?_getD, hi]
theorem sides_con {es : List (List AV)} (h : okS es = true) : SeqCon Try.prog 54 [.rp [.sl 42] [.rs 42 es] 0] ((sidesX es).map encS) := by
  obtain ⟨hl, hp⟩ := Bool.and_eq_true_iff.1 h
  have hl := Nat.le_of_ble_eq_true hl
  have hxl : ((sidesX es).map encS).length = es.length := by rw [List.length_map, sidesX_len]
  refine iter_slice (S := S0) (RO := ro 54) (L := fun _ _ => none) S0_ok mixed (fn := Try.f54) (r0 := sr0) (r1 := sr1) (r2 := sr2) (r4 := sr4) (t8 := 8) (z := 23) (yd := 22) (yv := 12) (xvs := [13, 21]) (c := 10) (ops := sops) (keep := sK) (stI := sI es)
    Try.func54 (names 54 _ Try.func54) rfl rfl (fun lo p => ⟨trivial, trivial, trivial, trivial⟩) (by kernel_rfl) rfl (cut_of (m := 2) rfl (by kernel_rfl)) rfl rfl rfl rfl rfl rfl rfl rfl rfl rfl ⟨by decide, by decide⟩ (fun x hx => ?_) (show 2 ≤ 25 by decide)
    (fun l => sides_eq0 es l) (fun l i hi => ?_) (fun l => ?_) (fun l i hi => ?_) (fun l i => ⟨rfl, rfl, rfl, rfl, rfl⟩)
  · obtain ⟨y, hy, rfl⟩ := List.mem_map.1 hx
    exact ⟨List.all_eq_true.1 hp y hy, rfl⟩
  · rw [hxl] at hi
    have h1 : (i : Int) < (es.length : Int) := by omega
    have hw : IntKind.i64.wrap ((i : Int) + 1) = (i : Int) + 1 := wrap_ids (by omega) (by omega)
    have ht : (((i : Int) + 1).tmod (es.length : Int)) = (((i + 1) % es.length : Nat) : Int) := by
      rw [show ((i : Int) + 1) = ((i + 1 : Nat) : Int) by omega, ← Int.ofNat_tmod]
    have hm := Nat.mod_lt (i + 1) (show 0 < es.length by omega)
    have hg : ((sidesX es).map encS).getD i [] = encS (sideX es i ((i + 1) % es.length)) := by
      rw [← sidesX_at hi]
      simp [List.getD_eq_getElem?_getD, sidesX_len, hi]
    rw [sides_eq, hw, ht, hg]
    generalize (i + 1) % es.length = q at hm
    have e1 : inb (i : Int) es.length = true := by simp [inb, hi]
    have e2 : inb (q : Int) es.length = true := by simp [inb, hm]
    have e3 : decide ((es.length : Int) = 0) = false := decide_eq_false (by omega)
    simp only [h1, decide_true, cond_true, e1, e2, e3, cond_false, Int.toNat_natCast]
  · rw [hxl, sides_eq]
    have h1 : ¬ ((es.length : Int) < (es.length : Int)) := by omega
    simp only [h1, decide_false, cond_false]
  · rw [hxl] at hi
    have hw : IntKind.i64.wrap ((i : Int) + 1) = (i : Int) + 1 := wrap_ids (by omega) (by omega)
    rw [sides_eq4, hw]
    rfl
end Go.Proofs.Ytkdiaipaajgcbaa

set_option maxRecDepth 100000
set_option maxHeartbeats 0
set_option linter.unusedVariables false
namespace Go.Proofs.Ytkdiaipaajgcbaa
open Go Go.Ev

noncomputable def c34y : Code := match Try.f34.body with | some c => c | _ => .skip
noncomputable def as34ya : Code := rangeA c34y [true, false, true, false]
noncomputable def bd34ya : Code := rangeB c34y [true, false, true, false]
noncomputable def s34ya (u v n : Int) (t10 : List (List AV)) (m2 : Bool) : St :=
  { t := [(4, .rp [.int .i64, .int .i64] [.i .i64 u, .i .i64 v] 0), (5, .rp [.int .i64] [.i .i64 n] 0), (6, .p 2 0 0), (10, .fn 54 [.rp [.sl 42] [.rs 42 t10] 0])], m := [(0, .dead), (1, .dead), (2, .row 4 [[.b m2]]), (3, .dead), (4, .dead)], nx := 5, nt := 19 }
structure S34ya where
inductive T34ya where
  | x0 (m2' : Bool)
noncomputable def stp34ya (u v n : Int) (t10 : List (List AV)) (m2 : Bool) (it : List AV) : Lp S34ya T34ya :=
  cond (decide (w35y_0 (fI it 0) (fI it 1) (fI it 2) (fI it 3) u v < n)) (.out (.x0 false)) (.go ⟨⟩)
noncomputable def o34ya_0 (u v n : Int) (t10 : List (List AV)) (m2 m2' : Bool) : St :=
  { t := [(4, .rp [.int .i64, .int .i64] [.i .i64 u, .i .i64 v] 0), (5, .rp [.int .i64] [.i .i64 n] 0), (6, .p 2 0 0), (10, .fn 54 [.rp [.sl 42] [.rs 42 t10] 0])], m := [(0, .dead), (1, .dead), (2, .row 4 [[.b m2']]), (3, .dead), (4, .dead)], nx := 5, nt := 19 }
noncomputable def ou34ya (u v n : Int) (t10 : List (List AV)) (m2 : Bool) : T34ya → Ex × St
  | .x0 m2' => (.ret, o34ya_0 u v n t10 m2 m2')
noncomputable def r34ya (u v n : Int) (t10 : List (List AV)) (m2 : Bool) (es : List (List AV)) : Option (Sum S34ya T34ya) := iterR (fun x it => stp34ya u v n t10 m2 it) (sidesX es) (⟨⟩ : S34ya)
noncomputable def i34ya_0 (u v n : Int) (t10 : List (List AV)) (m2 : Bool) (es : List (List AV)) : Bool := match r34ya u v n t10 m2 es with
  | some (.inl ⟨⟩) => true
  | _ => false
noncomputable def i34ya_1 (u v n : Int) (t10 : List (List AV)) (m2 : Bool) (es : List (List AV)) : Bool := match r34ya u v n t10 m2 es with
  | some (.inr (.x0 _)) => true
  | _ => false
noncomputable def v34ya_1_m2' (u v n : Int) (t10 : List (List AV)) (m2 : Bool) (es : List (List AV)) : Bool := match r34ya u v n t10 m2 es with
  | some (.inr (.x0 m2')) => m2'
  | _ => default
noncomputable def l34ya (st : St) : Option (List (Bool × Ex × St)) := match normV Try.prog [(4, none), (5, none), (6, none), (10, none)] 5 st, gt st.t 10 with
  | some ([.rp [.int .i64, .int .i64] [.i .i64 u, .i .i64 v] 0, .rp [.int .i64] [.i .i64 n] 0, .p 2 0 0, .fn 54 [.rp [.sl 42] [.rs 42 t10] 0]], [(0, .dead), (1, .dead), (2, .row 4 [[.b m2]]), (3, .dead), (4, .dead)], 5, 19), .fn 54 [.rp [.sl 42] [.rs 42 es] 0] => some [(okS es && i34ya_0 u v n t10 m2 es, .nrm, s34ya u v n t10 m2), (okS es && i34ya_1 u v n t10 m2 es, .ret, o34ya_0 u v n t10 m2 (v34ya_1_m2' u v n t10 m2 es))]
  | _, _ => none
noncomputable def L34y : LSpec := fun p st => match p with
  | [false, true, false, true] => l34ya st
  | _ => none
theorem is34ya_0 (u v n : Int) (t10 : List (List AV)) (m2 : Bool) (es : List (List AV)) (h : i34ya_0 u v n t10 m2 es = true) : r34ya u v n t10 m2 es = some (.inl ⟨⟩) := by
  unfold i34ya_0 at h
  generalize r34ya u v n t10 m2 es = r at h ⊢
  rcases r with _ | y
  · cases h
  · rcases y with y | y <;> first | rfl | (cases h; done) | (cases y <;> first | rfl | cases h)
theorem is34ya_1 (u v n : Int) (t10 : List (List AV)) (m2 : Bool) (es : List (List AV)) (h : i34ya_1 u v n t10 m2 es = true) : r34ya u v n t10 m2 es = some (.inr (.x0 (v34ya_1_m2' u v n t10 m2 es))) := by
  unfold i34ya_1 at h
  unfold v34ya_1_m2'
  generalize r34ya u v n t10 m2 es = r at h ⊢
  rcases r with _ | y
  · cases h
  · rcases y with y | y <;> first | rfl | (cases h; done) | (cases y <;> first | rfl | cases h)
theorem round34ya (u v n : Int) (t10 : List (List AV)) (m2 : Bool) (it : List AV) : roundF Try.prog SY1 (ro 34) L34y [11, 12] as34ya bd34ya [false, true, false, true] 5 (s34ya u v n t10 m2) (encS it) =
    cond (decide (w35y_0 (fI it 0) (fI it 1) (fI it 2) (fI it 3) u v < n)) (some (.ret, o34ya_0 u v n t10 m2 false)) (some (.nrm, s34ya u v n t10 m2)) := by kernel_rfl
theorem rnd34ya (u v n : Int) (t10 : List (List AV)) (m2 : Bool) (x : S34ya) (it : List AV) : roundF Try.prog SY1 (ro 34) L34y [11, 12] as34ya bd34ya [false, true, false, true] 5 ((fun x => s34ya u v n t10 m2) x) (encS it) = toR (fun x => s34ya u v n t10 m2) (ou34ya u v n t10 m2) (stp34ya u v n t10 m2 it) := by
  refine (round34ya _ _ _ _ _ _ ).trans ?_
  unfold stp34ya
  simp only [toR_cond]
  rfl
theorem lok34ya {st : St} {outs : List (Bool × Ex × St)} {e : Ex} {s : St} {lo : Nat} (hlo : lo ≤ st.nx) (hl : l34ya st = some outs) (hch : Chosen outs e s) :
    ∃ keep nb, lo ≤ nb ∧ RB Try.prog SY1 (ro 34) L34y (.tmp 10) [11, 12] as34ya bd34ya [false, true, false, true] keep nb st e s := by
  unfold l34ya at hl
  split at hl
  · rename_i u v n t10 m2 es hno hgf
    cases hl
    obtain ⟨hnx, hno⟩ := normV_norm hno
    obtain ⟨x, hx, hg, rfl, rfl⟩ := chosen_any hch
    simp only [List.mem_cons, List.not_mem_nil, or_false] at hx
    have hgg : okS es = true := by
      rcases hx with rfl | rfl
      all_goals exact (Bool.and_eq_true_iff.1 hg).1
    have main := fun y h => rounds_iter (x := (⟨⟩ : S34ya)) (y := y) (nb := 5) (fun y => by cases y <;> simp [ou34ya]) (rnd34ya u v n t10 m2) (xs := sidesX es) h
    refine ⟨_, _, hnx ▸ hlo, _, _, (sidesX es).map encS, _, hgf, by kernel_rfl, sides_con hgg, fun x hx => encS_len hx, fun q hq => ?_, hno, rfl, ?_⟩
    · have hn := norm_nt hno
      simp only [List.mem_cons, List.not_mem_nil, or_false] at hq
      rcases hq with rfl | rfl <;> (rw [← hn]; exact Nat.le_of_ble_eq_true rfl)
    rw [show liveOnly Try.prog { t := (([(4, none), (5, none), (6, none), (10, none)] : List (Nat × Option TypeId)).map Prod.fst).zip [.rp [.int .i64, .int .i64] [.i .i64 u, .i .i64 v] 0, .rp [.int .i64] [.i .i64 n] 0, .p 2 0 0, .fn 54 [.rp [.sl 42] [.rs 42 t10] 0]], m := [(0, .dead), (1, .dead), (2, .row 4 [[.b m2]]), (3, .dead), (4, .dead)], nx := 5, nt := 19 } = s34ya u v n t10 m2 from by kernel_rfl]
    rcases hx with rfl | rfl
    · exact main _ (is34ya_0 u v n t10 m2 es (Bool.and_eq_true_iff.1 hg).2)
    · exact main _ (is34ya_1 u v n t10 m2 es (Bool.and_eq_true_iff.1 hg).2)
  · cases hl
theorem L34y_ok (q : Pl) (c : Code) (hq : locate c34y q.reverse = some (.loop c)) (lo : Nat) (st : St) (outs : List (Bool × Ex × St)) (e : Ex) (s : St) (hlo : lo ≤ st.nx) (hl : L34y q st = some outs) (hch : Chosen outs e s) :
    ∃ keep nb, lo ≤ nb ∧ LB Try.prog SY1 (ro 34) L34y c q keep nb st e s := by
  unfold L34y at hl
  split at hl
  · have : locate c34y ([false, true, false, true] : Pl).reverse = some (.rangeFunc (.tmp 10) #[11, 12] as34ya bd34ya) := by kernel_rfl
    rw [this] at hq
    cases hq
  · cases hl
theorem L34y_okR (q : Pl) (g : Operand) (ps : Array Nat) (a b : Code) (hq : locate c34y q.reverse = some (.rangeFunc g ps a b)) (lo : Nat) (st : St) (outs : List (Bool × Ex × St)) (e : Ex) (s : St) (hlo : lo ≤ st.nx) (hl : L34y q st = some outs) (hch : Chosen outs e s) :
    ∃ keep nb, lo ≤ nb ∧ RB Try.prog SY1 (ro 34) L34y g ps.toList a b q keep nb st e s := by
  unfold L34y at hl
  split at hl
  · have : locate c34y ([false, true, false, true] : Pl).reverse = some (.rangeFunc (.tmp 10) #[11, 12] as34ya bd34ya) := by kernel_rfl
    rw [this] at hq
    cases hq
    exact lok34ya hlo hl hch
  · cases hl
theorem lok34y : LOK Try.prog SY1 (ro 34) L34y 0 false c34y [] :=
  lok_gen L34y_ok L34y_okR c34y [] 0 false (locate_nil _) (by kernel_rfl)
noncomputable def t34y (os : List (List AV)) (u v n : Int) : Tr ((Bool)) :=
  .cn (okS (w46y_0 os) && i34ya_0 u v n (w46y_0 os) false (w46y_0 os)) (.lf (true)) (.cn (okS (w46y_0 os) && i34ya_1 u v n (w46y_0 os) false (w46y_0 os)) (.lf (v34ya_1_m2' u v n (w46y_0 os) false (w46y_0 os))) (.nn))
noncomputable def g34y (os : List (List AV)) (u v n : Int) : Bool := (t34y os u v n).g
noncomputable def w34y_0 (os : List (List AV)) (u v n : Int) : Bool := (t34y os u v n).val
theorem eq34y (os : List (List AV)) (u v n : Int) : evF Try.prog SY1 (ro 34) L34y Try.f34 [.rs 42 os, .agg [.i .i64 u, .i .i64 v], .i .i64 n] = (t34y os u v n).opt (fun (x : (Bool)) => (.b x : AV)) := by kernel_rfl
theorem con34y (os : List (List AV)) (u v n : Int) (h : g34y os u v n = true) : Con Try.prog 34 [.rs 42 os, .agg [.i .i64 u, .i .i64 v], .i .i64 n] [] (.b (w34y_0 os u v n)) [] :=
  con_of SY1_ok mixed Try.func34 (c := c34y) rfl (names 34 _ Try.func34) lok34y ((eq34y os u v n).trans (Tr.sound _ _ h))
noncomputable def e34y (args : List AV) (rows : List Blk) : Option (Bool × AV × List Blk) := match args, rows with
  | [.rs 42 os, .agg [.i .i64 u, .i .i64 v], .i .i64 n], [] => some (g34y os u v n, .b (w34y_0 os u v n), [])
  | _, _ => none
theorem e34y_ok (args : List AV) (rows : List Blk) (pre : Bool) (v : AV) (rows' : List Blk) (h : e34y args rows = some (pre, v, rows')) (hp : pre = true) : Con Try.prog 34 args rows v rows' := by
  unfold e34y at h
  split at h
  · cases h; exact con34y _ _ _ _ hp
  · cases h
-- SPEC 34
end Go.Proofs.Ytkdiaipaajgcbaa

set_option maxRecDepth 100000
set_option maxHeartbeats 0
set_option linter.unusedVariables false
namespace Go.Proofs.Ytkdiaipaajgcbaa
open Go Go.Ev

noncomputable def c16y : Code := match Try.f16.body with | some c => c | _ => .skip
theorem lok16y : LOK Try.prog SY1 (ro 16) (fun _ _ => none) 0 false c16y [] :=
  lok_lo (fun _ _ _ _ _ _ _ h _ => by cases h) c16y [] false (locate_nil _) (by kernel_rfl)
noncomputable def t16y (u wd ln le ta th : Int) : Tr ((Bool)) :=
  .cn (g32y u (-400) 400) (.cn (w32y_0 u (-400) 400) (.cn (g32y wd 1 100) (.cn (w32y_0 wd 1 100) (.cn (g32y ln 1 100) (.cn (w32y_0 ln 1 100) (.cn (g32y le (-50) 50) (.cn (w32y_0 le (-50) 50) (.cn (g32y ta 0 100) (.cn (w32y_0 ta 0 100) (.cn (decide (IntKind.i64.wrap (2 * ta) < wd)) (.cn (g32y th 1 1000) (.lf (w32y_0 th 1 1000)) (.nn)) (.lf (false))) (.lf (false))) (.nn)) (.lf (false))) (.nn)) (.lf (false))) (.nn)) (.lf (false))) (.nn)) (.lf (false))) (.nn)
noncomputable def g16y (u wd ln le ta th : Int) : Bool := (t16y u wd ln le ta th).g
noncomputable def w16y_0 (u wd ln le ta th : Int) : Bool := (t16y u wd ln le ta th).val
theorem eq16y (u wd ln le ta th : Int) : evF Try.prog SY1 (ro 16) (fun _ _ => none) Try.f16 [.agg [.i .i64 u, .i .i64 wd, .i .i64 ln, .i .i64 le, .i .i64 ta, .i .i64 th]] = (t16y u wd ln le ta th).opt (fun (x : (Bool)) => (.b x : AV)) := by kernel_rfl
theorem con16y (u wd ln le ta th : Int) (h : g16y u wd ln le ta th = true) : Con Try.prog 16 [.agg [.i .i64 u, .i .i64 wd, .i .i64 ln, .i .i64 le, .i .i64 ta, .i .i64 th]] [] (.b (w16y_0 u wd ln le ta th)) [] :=
  con_of SY1_ok mixed Try.func16 (c := c16y) rfl (names 16 _ Try.func16) lok16y ((eq16y u wd ln le ta th).trans (Tr.sound _ _ h))
noncomputable def e16y (args : List AV) (rows : List Blk) : Option (Bool × AV × List Blk) := match args, rows with
  | [.agg [.i .i64 u, .i .i64 wd, .i .i64 ln, .i .i64 le, .i .i64 ta, .i .i64 th]], [] => some (g16y u wd ln le ta th, .b (w16y_0 u wd ln le ta th), [])
  | _, _ => none
theorem e16y_ok (args : List AV) (rows : List Blk) (pre : Bool) (v : AV) (rows' : List Blk) (h : e16y args rows = some (pre, v, rows')) (hp : pre = true) : Con Try.prog 16 args rows v rows' := by
  unfold e16y at h
  split at h
  · cases h; exact con16y _ _ _ _ _ _ hp
  · cases h
-- SPEC 16
end Go.Proofs.Ytkdiaipaajgcbaa

set_option maxRecDepth 100000
set_option maxHeartbeats 0
set_option linter.unusedVariables false
namespace Go.Proofs.Ytkdiaipaajgcbaa
open Go Go.Ev

noncomputable def c15y : Code := match Try.f15.body with | some c => c | _ => .skip
theorem lok15y : LOK Try.prog SY1 (ro 15) (fun _ _ => none) 0 false c15y [] :=
  lok_lo (fun _ _ _ _ _ _ _ h _ => by cases h) c15y [] false (locate_nil _) (by kernel_rfl)
noncomputable def t15y (ly el eh gl gh sd br ln : Int) : Tr ((Int)) :=
  .cn (g32y ly 1 96) (.cn (!w32y_0 ly 1 96) (.lf (1)) (.cn (g36y el eh (-400) 0) (.cn (!w36y_0 el eh (-400) 0) (.lf (1)) (.cn (g36y gl gh 1 100) (.cn (!w36y_0 gl gh 1 100) (.lf (1)) (.cn (g32y sd 0 100) (.cn (!w32y_0 sd 0 100) (.lf (1)) (.cn (g32y br 0 100) (.cn (!w32y_0 br 0 100) (.lf (1)) (.cn (g32y ln 0 50) (.cn (!w32y_0 ln 0 50) (.lf (1)) (.lf (0))) (.nn))) (.nn))) (.nn))) (.nn))) (.nn))) (.nn)
noncomputable def g15y (ly el eh gl gh sd br ln : Int) : Bool := (t15y ly el eh gl gh sd br ln).g
noncomputable def w15y_0 (ly el eh gl gh sd br ln : Int) : Int := (t15y ly el eh gl gh sd br ln).val
theorem eq15y (ly el eh gl gh sd br ln : Int) : evF Try.prog SY1 (ro 15) (fun _ _ => none) Try.f15 [.agg [.i .i64 ly, .i .i64 el, .i .i64 eh, .i .i64 gl, .i .i64 gh, .i .i64 sd, .i .i64 br, .i .i64 ln]] = (t15y ly el eh gl gh sd br ln).opt (fun (x : (Int)) => (.i .i64 x : AV)) := by kernel_rfl
theorem con15y (ly el eh gl gh sd br ln : Int) (h : g15y ly el eh gl gh sd br ln = true) : Con Try.prog 15 [.agg [.i .i64 ly, .i .i64 el, .i .i64 eh, .i .i64 gl, .i .i64 gh, .i .i64 sd, .i .i64 br, .i .i64 ln]] [] (.i .i64 (w15y_0 ly el eh gl gh sd br ln)) [] :=
  con_of SY1_ok mixed Try.func15 (c := c15y) rfl (names 15 _ Try.func15) lok15y ((eq15y ly el eh gl gh sd br ln).trans (Tr.sound _ _ h))
noncomputable def e15y (args : List AV) (rows : List Blk) : Option (Bool × AV × List Blk) := match args, rows with
  | [.agg [.i .i64 ly, .i .i64 el, .i .i64 eh, .i .i64 gl, .i .i64 gh, .i .i64 sd, .i .i64 br, .i .i64 ln]], [] => some (g15y ly el eh gl gh sd br ln, .i .i64 (w15y_0 ly el eh gl gh sd br ln), [])
  | _, _ => none
theorem e15y_ok (args : List AV) (rows : List Blk) (pre : Bool) (v : AV) (rows' : List Blk) (h : e15y args rows = some (pre, v, rows')) (hp : pre = true) : Con Try.prog 15 args rows v rows' := by
  unfold e15y at h
  split at h
  · cases h; exact con15y _ _ _ _ _ _ _ _ hp
  · cases h
-- SPEC 15
end Go.Proofs.Ytkdiaipaajgcbaa

set_option maxRecDepth 100000
set_option linter.unusedVariables false
namespace Go.Proofs.Ytkdiaipaajgcbaa
open Go Go.Ev
noncomputable def SY3 : Ev.Spec := insS 15 e15y (insS 16 e16y (insS 34 e34y (insS 33 e33y (SY1))))
theorem SY3_ok : SpecOK Try.prog SY3 := insS_ok e15y_ok (insS_ok e16y_ok (insS_ok e34y_ok (insS_ok e33y_ok (SY1_ok))))
end Go.Proofs.Ytkdiaipaajgcbaa

set_option maxRecDepth 100000
set_option maxHeartbeats 0
set_option linter.unusedVariables false
namespace Go.Proofs.Ytkdiaipaajgcbaa
open Go Go.Ev

noncomputable def c14y : Code := match Try.f14.body with | some c => c | _ => .skip
noncomputable def lp14ya : Code := loopAt c14y [true, true, true, false, true, false]
noncomputable def s14ya (os hs : List (List AV)) (t2 : Int) (t3 t29 : List (List AV)) (t30 t31 : Int) : St :=
  { t := [(1, .rp [.sl 42, .sl 106] [.rs 42 os, .rs 106 hs] 0), (2, .i .i64 t2), (3, .rs 42 t3), (29, .rs 42 t29), (30, .i .i64 t30), (31, .i .i64 t31)], m := [], nx := 0, nt := 241 }
structure S14ya where
  t31 : Int
inductive T14ya where
  | x0 (t2' : Int) (t31 : Int)
  | x1 (t31 : Int)
noncomputable def stp14ya (os hs : List (List AV)) (t2 : Int) (t3 t29 : List (List AV)) (t30 t31 : Int) : Lp S14ya T14ya :=
  cond (decide (t31 < t30)) (cond (inb t31 t29.length) (cond (g32y (fI (t29.getD t31.toNat []) 0) 0 400) (cond (!w32y_0 (fI (t29.getD t31.toNat []) 0) 0 400) (.out (.x0 1 t31)) (cond (g32y (fI (t29.getD t31.toNat []) 1) 0 400) (cond (!w32y_0 (fI (t29.getD t31.toNat []) 1) 0 400) (.out (.x0 1 t31)) (.go ⟨IntKind.i64.wrap (t31 + 1)⟩)) (.bad))) (.bad)) (.bad)) (.out (.x1 t31))
noncomputable def o14ya_0 (os hs : List (List AV)) (t2 : Int) (t3 t29 : List (List AV)) (t30 t2' t31 : Int) : St :=
  { t := [(1, .rp [.sl 42, .sl 106] [.rs 42 os, .rs 106 hs] 0), (2, .i .i64 t2'), (3, .rs 42 t3), (29, .rs 42 t29), (30, .i .i64 t30), (31, .i .i64 t31)], m := [], nx := 0, nt := 241 }
noncomputable def o14ya_1 (os hs : List (List AV)) (t2 : Int) (t3 t29 : List (List AV)) (t30 t31 : Int) : St :=
  { t := [(1, .rp [.sl 42, .sl 106] [.rs 42 os, .rs 106 hs] 0), (2, .i .i64 t2), (3, .rs 42 t3), (29, .rs 42 t29), (30, .i .i64 t30), (31, .i .i64 t31)], m := [], nx := 0, nt := 241 }
noncomputable def ou14ya (os hs : List (List AV)) (t2 : Int) (t3 t29 : List (List AV)) (t30 : Int) : T14ya → Ex × St
  | .x0 t2' t31 => (.ret, o14ya_0 os hs t2 t3 t29 t30 t2' t31)
  | .x1 t31 => (.ext 1, o14ya_1 os hs t2 t3 t29 t30 t31)
noncomputable def r14ya (os hs : List (List AV)) (t2 : Int) (t3 t29 : List (List AV)) (t30 t31 : Int) : Option T14ya := run (fun x => stp14ya os hs t2 t3 t29 t30 x.t31) (⟨t31⟩ : S14ya)
noncomputable def i14ya_0 (os hs : List (List AV)) (t2 : Int) (t3 t29 : List (List AV)) (t30 t31 : Int) : Bool := match r14ya os hs t2 t3 t29 t30 t31 with
  | some (.x0 _ _) => true
  | _ => false
noncomputable def v14ya_0_t2' (os hs : List (List AV)) (t2 : Int) (t3 t29 : List (List AV)) (t30 t31 : Int) : Int := match r14ya os hs t2 t3 t29 t30 t31 with
  | some (.x0 t2' _) => t2'
  | _ => default
noncomputable def v14ya_0_t31 (os hs : List (List AV)) (t2 : Int) (t3 t29 : List (List AV)) (t30 t31 : Int) : Int := match r14ya os hs t2 t3 t29 t30 t31 with
  | some (.x0 _ t31) => t31
  | _ => default
noncomputable def i14ya_1 (os hs : List (List AV)) (t2 : Int) (t3 t29 : List (List AV)) (t30 t31 : Int) : Bool := match r14ya os hs t2 t3 t29 t30 t31 with
  | some (.x1 _) => true
  | _ => false
noncomputable def v14ya_1_t31 (os hs : List (List AV)) (t2 : Int) (t3 t29 : List (List AV)) (t30 t31 : Int) : Int := match r14ya os hs t2 t3 t29 t30 t31 with
  | some (.x1 t31) => t31
  | _ => default
noncomputable def l14ya (st : St) : Option (List (Bool × Ex × St)) := match normW Try.prog [(1, none), (2, none), (3, none), (29, none), (30, none), (31, none)] 0 st with
  | some ([.rp [.sl 42, .sl 106] [.rs 42 os, .rs 106 hs] 0, .i .i64 t2, .rs 42 t3, .rs 42 t29, .i .i64 t30, .i .i64 t31], [], 0, 241) => some [(i14ya_0 os hs t2 t3 t29 t30 t31, .ret, o14ya_0 os hs t2 t3 t29 t30 (v14ya_0_t2' os hs t2 t3 t29 t30 t31) (v14ya_0_t31 os hs t2 t3 t29 t30 t31)), (i14ya_1 os hs t2 t3 t29 t30 t31, .ext 1, o14ya_1 os hs t2 t3 t29 t30 (v14ya_1_t31 os hs t2 t3 t29 t30 t31))]
  | _ => none
noncomputable def lp14yb : Code := loopAt c14y [true, true, true, true, false, true, false]
noncomputable def s14yb (os hs : List (List AV)) (t2 : Int) (t3 t46 : List (List AV)) (t47 t48 : Int) : St :=
  { t := [(1, .rp [.sl 42, .sl 106] [.rs 42 os, .rs 106 hs] 0), (2, .i .i64 t2), (3, .rs 42 t3), (46, .rs 42 t46), (47, .i .i64 t47), (48, .i .i64 t48)], m := [], nx := 0, nt := 241 }
structure S14yb where
  t48 : Int
inductive T14yb where
  | x0 (t2' : Int) (t48 : Int)
  | x1 (t48 : Int)
noncomputable def stp14yb (os hs : List (List AV)) (t2 : Int) (t3 t46 : List (List AV)) (t47 t48 : Int) : Lp S14yb T14yb :=
  cond (decide (t48 < t47)) (cond (inb t48 t46.length) (cond (decide (0 ≤ t48) && decide (t48 ≤ (↑t3.length : Int))) (cond (g33y (List.drop 0 (List.take t48.toNat t3)) (fI (t46.getD t48.toNat []) 0) (fI (t46.getD t48.toNat []) 1)) (cond (w33y_0 (List.drop 0 (List.take t48.toNat t3)) (fI (t46.getD t48.toNat []) 0) (fI (t46.getD t48.toNat []) 1)) (.out (.x0 6 t48)) (.go ⟨IntKind.i64.wrap (t48 + 1)⟩)) (.bad)) (.bad)) (.bad)) (.out (.x1 t48))
noncomputable def o14yb_0 (os hs : List (List AV)) (t2 : Int) (t3 t46 : List (List AV)) (t47 t2' t48 : Int) : St :=
  { t := [(1, .rp [.sl 42, .sl 106] [.rs 42 os, .rs 106 hs] 0), (2, .i .i64 t2'), (3, .rs 42 t3), (46, .rs 42 t46), (47, .i .i64 t47), (48, .i .i64 t48)], m := [], nx := 0, nt := 241 }
noncomputable def o14yb_1 (os hs : List (List AV)) (t2 : Int) (t3 t46 : List (List AV)) (t47 t48 : Int) : St :=
  { t := [(1, .rp [.sl 42, .sl 106] [.rs 42 os, .rs 106 hs] 0), (2, .i .i64 t2), (3, .rs 42 t3), (46, .rs 42 t46), (47, .i .i64 t47), (48, .i .i64 t48)], m := [], nx := 0, nt := 241 }
noncomputable def ou14yb (os hs : List (List AV)) (t2 : Int) (t3 t46 : List (List AV)) (t47 : Int) : T14yb → Ex × St
  | .x0 t2' t48 => (.ret, o14yb_0 os hs t2 t3 t46 t47 t2' t48)
  | .x1 t48 => (.ext 3, o14yb_1 os hs t2 t3 t46 t47 t48)
noncomputable def r14yb (os hs : List (List AV)) (t2 : Int) (t3 t46 : List (List AV)) (t47 t48 : Int) : Option T14yb := run (fun x => stp14yb os hs t2 t3 t46 t47 x.t48) (⟨t48⟩ : S14yb)
noncomputable def i14yb_0 (os hs : List (List AV)) (t2 : Int) (t3 t46 : List (List AV)) (t47 t48 : Int) : Bool := match r14yb os hs t2 t3 t46 t47 t48 with
  | some (.x0 _ _) => true
  | _ => false
noncomputable def v14yb_0_t2' (os hs : List (List AV)) (t2 : Int) (t3 t46 : List (List AV)) (t47 t48 : Int) : Int := match r14yb os hs t2 t3 t46 t47 t48 with
  | some (.x0 t2' _) => t2'
  | _ => default
noncomputable def v14yb_0_t48 (os hs : List (List AV)) (t2 : Int) (t3 t46 : List (List AV)) (t47 t48 : Int) : Int := match r14yb os hs t2 t3 t46 t47 t48 with
  | some (.x0 _ t48) => t48
  | _ => default
noncomputable def i14yb_1 (os hs : List (List AV)) (t2 : Int) (t3 t46 : List (List AV)) (t47 t48 : Int) : Bool := match r14yb os hs t2 t3 t46 t47 t48 with
  | some (.x1 _) => true
  | _ => false
noncomputable def v14yb_1_t48 (os hs : List (List AV)) (t2 : Int) (t3 t46 : List (List AV)) (t47 t48 : Int) : Int := match r14yb os hs t2 t3 t46 t47 t48 with
  | some (.x1 t48) => t48
  | _ => default
noncomputable def l14yb (st : St) : Option (List (Bool × Ex × St)) := match normW Try.prog [(1, none), (2, none), (3, none), (46, none), (47, none), (48, none)] 0 st with
  | some ([.rp [.sl 42, .sl 106] [.rs 42 os, .rs 106 hs] 0, .i .i64 t2, .rs 42 t3, .rs 42 t46, .i .i64 t47, .i .i64 t48], [], 0, 241) => some [(i14yb_0 os hs t2 t3 t46 t47 t48, .ret, o14yb_0 os hs t2 t3 t46 t47 (v14yb_0_t2' os hs t2 t3 t46 t47 t48) (v14yb_0_t48 os hs t2 t3 t46 t47 t48)), (i14yb_1 os hs t2 t3 t46 t47 t48, .ext 3, o14yb_1 os hs t2 t3 t46 t47 (v14yb_1_t48 os hs t2 t3 t46 t47 t48))]
  | _ => none
noncomputable def lp14yc : Code := loopAt c14y [true, true, true, true, true, true, false, true, false]
noncomputable def s14yc (os hs : List (List AV)) (t2 : Int) (t3 : List (List AV)) (t8 : Bool) (t59 : List (List AV)) (t60 t61 : Int) : St :=
  { t := [(1, .rp [.sl 42, .sl 106] [.rs 42 os, .rs 106 hs] 0), (2, .i .i64 t2), (3, .rs 42 t3), (8, .b t8), (59, .rs 42 t59), (60, .i .i64 t60), (61, .i .i64 t61)], m := [], nx := 0, nt := 241 }
structure S14yc where
  t8 : Bool
  t61 : Int
inductive T14yc where
  | x0 (t2' : Int) (t8 : Bool) (t61 : Int)
  | x1 (t8 : Bool) (t61 : Int)
noncomputable def stp14yc (os hs : List (List AV)) (t2 : Int) (t3 t59 : List (List AV)) (t60 : Int) (t8 : Bool) (t61 : Int) : Lp S14yc T14yc :=
  cond (decide (t61 < t60)) (cond (inb t61 t59.length) (cond (decide ((↑t3.length : Int) = 0)) (.bad) (cond (inb ((IntKind.i64.wrap (t61 + 1)).tmod (↑t3.length : Int)) t3.length) (cond (decide ((↑t3.length : Int) = 0)) (.bad) (cond (inb ((IntKind.i64.wrap (t61 + 2)).tmod (↑t3.length : Int)) t3.length) (cond (g34y t3 (fI (t59.getD t61.toNat []) 0) (fI (t59.getD t61.toNat []) 1) 0) (cond (!w34y_0 t3 (fI (t59.getD t61.toNat []) 0) (fI (t59.getD t61.toNat []) 1) 0) (.out (.x0 9 t8 t61)) (cond (w35y_0 (fI (t59.getD t61.toNat []) 0) (fI (t59.getD t61.toNat []) 1) (fI (t3.getD ((IntKind.i64.wrap (t61 + 1)).tmod (↑t3.length : Int)).toNat []) 0) (fI (t3.getD ((IntKind.i64.wrap (t61 + 1)).tmod (↑t3.length : Int)).toNat []) 1) (fI (t3.getD ((IntKind.i64.wrap (t61 + 2)).tmod (↑t3.length : Int)).toNat []) 0) (fI (t3.getD ((IntKind.i64.wrap (t61 + 2)).tmod (↑t3.length : Int)).toNat []) 1) == 0) (cond (decide (IntKind.i64.wrap (IntKind.i64.wrap (IntKind.i64.wrap (fI (t3.getD ((IntKind.i64.wrap (t61 + 1)).tmod (↑t3.length : Int)).toNat []) 0 - fI (t59.getD t61.toNat []) 0) * IntKind.i64.wrap (fI (t3.getD ((IntKind.i64.wrap (t61 + 2)).tmod (↑t3.length : Int)).toNat []) 0 - fI (t3.getD ((IntKind.i64.wrap (t61 + 1)).tmod (↑t3.length : Int)).toNat []) 0)) + IntKind.i64.wrap (IntKind.i64.wrap (fI (t3.getD ((IntKind.i64.wrap (t61 + 1)).tmod (↑t3.length : Int)).toNat []) 1 - fI (t59.getD t61.toNat []) 1) * IntKind.i64.wrap (fI (t3.getD ((IntKind.i64.wrap (t61 + 2)).tmod (↑t3.length : Int)).toNat []) 1 - fI (t3.getD ((IntKind.i64.wrap (t61 + 1)).tmod (↑t3.length : Int)).toNat []) 1))) < 0)) (.out (.x0 9 t8 t61)) (cond (t8) (.go ⟨w35y_0 (fI (t59.getD t61.toNat []) 0) (fI (t59.getD t61.toNat []) 1) (fI (t3.getD ((IntKind.i64.wrap (t61 + 1)).tmod (↑t3.length : Int)).toNat []) 0) (fI (t3.getD ((IntKind.i64.wrap (t61 + 1)).tmod (↑t3.length : Int)).toNat []) 1) (fI (t3.getD ((IntKind.i64.wrap (t61 + 2)).tmod (↑t3.length : Int)).toNat []) 0) (fI (t3.getD ((IntKind.i64.wrap (t61 + 2)).tmod (↑t3.length : Int)).toNat []) 1) == 0, IntKind.i64.wrap (t61 + 1)⟩) (.go ⟨false, IntKind.i64.wrap (t61 + 1)⟩))) (cond (t8) (.go ⟨w35y_0 (fI (t59.getD t61.toNat []) 0) (fI (t59.getD t61.toNat []) 1) (fI (t3.getD ((IntKind.i64.wrap (t61 + 1)).tmod (↑t3.length : Int)).toNat []) 0) (fI (t3.getD ((IntKind.i64.wrap (t61 + 1)).tmod (↑t3.length : Int)).toNat []) 1) (fI (t3.getD ((IntKind.i64.wrap (t61 + 2)).tmod (↑t3.length : Int)).toNat []) 0) (fI (t3.getD ((IntKind.i64.wrap (t61 + 2)).tmod (↑t3.length : Int)).toNat []) 1) == 0, IntKind.i64.wrap (t61 + 1)⟩) (.go ⟨false, IntKind.i64.wrap (t61 + 1)⟩)))) (.bad)) (.bad))) (.bad))) (.bad)) (.out (.x1 t8 t61))
noncomputable def o14yc_0 (os hs : List (List AV)) (t2 : Int) (t3 t59 : List (List AV)) (t60 t2' : Int) (t8 : Bool) (t61 : Int) : St :=
  { t := [(1, .rp [.sl 42, .sl 106] [.rs 42 os, .rs 106 hs] 0), (2, .i .i64 t2'), (3, .rs 42 t3), (8, .b t8), (59, .rs 42 t59), (60, .i .i64 t60), (61, .i .i64 t61)], m := [], nx := 0, nt := 241 }
noncomputable def o14yc_1 (os hs : List (List AV)) (t2 : Int) (t3 t59 : List (List AV)) (t60 : Int) (t8 : Bool) (t61 : Int) : St :=
  { t := [(1, .rp [.sl 42, .sl 106] [.rs 42 os, .rs 106 hs] 0), (2, .i .i64 t2), (3, .rs 42 t3), (8, .b t8), (59, .rs 42 t59), (60, .i .i64 t60), (61, .i .i64 t61)], m := [], nx := 0, nt := 241 }
noncomputable def ou14yc (os hs : List (List AV)) (t2 : Int) (t3 t59 : List (List AV)) (t60 : Int) : T14yc → Ex × St
  | .x0 t2' t8 t61 => (.ret, o14yc_0 os hs t2 t3 t59 t60 t2' t8 t61)
  | .x1 t8 t61 => (.ext 5, o14yc_1 os hs t2 t3 t59 t60 t8 t61)
noncomputable def r14yc (os hs : List (List AV)) (t2 : Int) (t3 t59 : List (List AV)) (t60 : Int) (t8 : Bool) (t61 : Int) : Option T14yc := run (fun x => stp14yc os hs t2 t3 t59 t60 x.t8 x.t61) (⟨t8, t61⟩ : S14yc)
noncomputable def i14yc_0 (os hs : List (List AV)) (t2 : Int) (t3 t59 : List (List AV)) (t60 : Int) (t8 : Bool) (t61 : Int) : Bool := match r14yc os hs t2 t3 t59 t60 t8 t61 with
  | some (.x0 _ _ _) => true
  | _ => false
noncomputable def v14yc_0_t2' (os hs : List (List AV)) (t2 : Int) (t3 t59 : List (List AV)) (t60 : Int) (t8 : Bool) (t61 : Int) : Int := match r14yc os hs t2 t3 t59 t60 t8 t61 with
  | some (.x0 t2' _ _) => t2'
  | _ => default
noncomputable def v14yc_0_t8 (os hs : List (List AV)) (t2 : Int) (t3 t59 : List (List AV)) (t60 : Int) (t8 : Bool) (t61 : Int) : Bool := match r14yc os hs t2 t3 t59 t60 t8 t61 with
  | some (.x0 _ t8 _) => t8
  | _ => default
noncomputable def v14yc_0_t61 (os hs : List (List AV)) (t2 : Int) (t3 t59 : List (List AV)) (t60 : Int) (t8 : Bool) (t61 : Int) : Int := match r14yc os hs t2 t3 t59 t60 t8 t61 with
  | some (.x0 _ _ t61) => t61
  | _ => default
noncomputable def i14yc_1 (os hs : List (List AV)) (t2 : Int) (t3 t59 : List (List AV)) (t60 : Int) (t8 : Bool) (t61 : Int) : Bool := match r14yc os hs t2 t3 t59 t60 t8 t61 with
  | some (.x1 _ _) => true
  | _ => false
noncomputable def v14yc_1_t8 (os hs : List (List AV)) (t2 : Int) (t3 t59 : List (List AV)) (t60 : Int) (t8 : Bool) (t61 : Int) : Bool := match r14yc os hs t2 t3 t59 t60 t8 t61 with
  | some (.x1 t8 _) => t8
  | _ => default
noncomputable def v14yc_1_t61 (os hs : List (List AV)) (t2 : Int) (t3 t59 : List (List AV)) (t60 : Int) (t8 : Bool) (t61 : Int) : Int := match r14yc os hs t2 t3 t59 t60 t8 t61 with
  | some (.x1 _ t61) => t61
  | _ => default
noncomputable def l14yc (st : St) : Option (List (Bool × Ex × St)) := match normW Try.prog [(1, none), (2, none), (3, none), (8, none), (59, none), (60, none), (61, none)] 0 st with
  | some ([.rp [.sl 42, .sl 106] [.rs 42 os, .rs 106 hs] 0, .i .i64 t2, .rs 42 t3, .b t8, .rs 42 t59, .i .i64 t60, .i .i64 t61], [], 0, 241) => some [(i14yc_0 os hs t2 t3 t59 t60 t8 t61, .ret, o14yc_0 os hs t2 t3 t59 t60 (v14yc_0_t2' os hs t2 t3 t59 t60 t8 t61) (v14yc_0_t8 os hs t2 t3 t59 t60 t8 t61) (v14yc_0_t61 os hs t2 t3 t59 t60 t8 t61)), (i14yc_1 os hs t2 t3 t59 t60 t8 t61, .ext 5, o14yc_1 os hs t2 t3 t59 t60 (v14yc_1_t8 os hs t2 t3 t59 t60 t8 t61) (v14yc_1_t61 os hs t2 t3 t59 t60 t8 t61))]
  | _ => none
noncomputable def lp14yd : Code := loopAt c14y [true, true, true, true, true, true, true, true, true, false, true, false]
noncomputable def s14yd (os hs : List (List AV)) (t2 : Int) (t3 t134 : List (List AV)) (t135 t136 : Int) : St :=
  { t := [(1, .rp [.sl 42, .sl 106] [.rs 42 os, .rs 106 hs] 0), (2, .i .i64 t2), (3, .rs 42 t3), (134, .rs 106 t134), (135, .i .i64 t135), (136, .i .i64 t136)], m := [], nx := 0, nt := 241 }
noncomputable def lp14yda : Code := loopAt c14y [true, true, true, true, true, true, true, true, true, false, true, false, false, true, true, false, false, true, true, false, true, false]
noncomputable def s14yda (os hs : List (List AV)) (t2 : Int) (t3 : List (List AV)) (t13 : Int) (t134 : List (List AV)) (t135 t136 : Int) (t175 : List (List AV)) (t176 t177 m4_0 m4_1 m4_2 m4_3 : Int) : St :=
  { t := [(1, .rp [.sl 42, .sl 106] [.rs 42 os, .rs 106 hs] 0), (2, .i .i64 t2), (3, .rs 42 t3), (13, .i .i64 t13), (14, .p 4 0 0), (134, .rs 106 t134), (135, .i .i64 t135), (136, .i .i64 t136), (175, .rs 42 t175), (176, .i .i64 t176), (177, .i .i64 t177)], m := [(0, .dead), (1, .dead), (2, .dead), (3, .dead), (4, .row 106 [[.i .i64 m4_0, .i .i64 m4_1, .i .i64 m4_2, .i .i64 m4_3]])], nx := 5, nt := 241 }
structure S14yda where
  t177 : Int
inductive T14yda where
  | x0 (t2' : Int) (t177 : Int)
  | x1 (t177 : Int)
noncomputable def stp14yda (os hs : List (List AV)) (t2 : Int) (t3 : List (List AV)) (t13 : Int) (t134 : List (List AV)) (t135 t136 : Int) (t175 : List (List AV)) (t176 m4_0 m4_1 m4_2 m4_3 t177 : Int) : Lp S14yda T14yda :=
  cond (decide (t177 < t176)) (cond (inb t177 t175.length) (cond (g32y (fI (t175.getD t177.toNat []) 0) 0 400) (cond (!w32y_0 (fI (t175.getD t177.toNat []) 0) 0 400) (.out (.x0 9 t177)) (cond (g32y (fI (t175.getD t177.toNat []) 1) 0 400) (cond (!w32y_0 (fI (t175.getD t177.toNat []) 1) 0 400) (.out (.x0 9 t177)) (cond (g34y t3 (fI (t175.getD t177.toNat []) 0) (fI (t175.getD t177.toNat []) 1) 1) (cond (!w34y_0 t3 (fI (t175.getD t177.toNat []) 0) (fI (t175.getD t177.toNat []) 1) 1) (.out (.x0 9 t177)) (.go ⟨IntKind.i64.wrap (t177 + 1)⟩)) (.bad))) (.bad))) (.bad)) (.bad)) (.out (.x1 t177))
noncomputable def o14yda_0 (os hs : List (List AV)) (t2 : Int) (t3 : List (List AV)) (t13 : Int) (t134 : List (List AV)) (t135 t136 : Int) (t175 : List (List AV)) (t176 m4_0 m4_1 m4_2 m4_3 t2' t177 : Int) : St :=
  { t := [(1, .rp [.sl 42, .sl 106] [.rs 42 os, .rs 106 hs] 0), (2, .i .i64 t2'), (3, .rs 42 t3), (13, .i .i64 t13), (14, .p 4 0 0), (134, .rs 106 t134), (135, .i .i64 t135), (136, .i .i64 t136), (175, .rs 42 t175), (176, .i .i64 t176), (177, .i .i64 t177)], m := [(0, .dead), (1, .dead), (2, .dead), (3, .dead), (4, .row 106 [[.i .i64 m4_0, .i .i64 m4_1, .i .i64 m4_2, .i .i64 m4_3]])], nx := 5, nt := 241 }
noncomputable def o14yda_1 (os hs : List (List AV)) (t2 : Int) (t3 : List (List AV)) (t13 : Int) (t134 : List (List AV)) (t135 t136 : Int) (t175 : List (List AV)) (t176 m4_0 m4_1 m4_2 m4_3 t177 : Int) : St :=
  { t := [(1, .rp [.sl 42, .sl 106] [.rs 42 os, .rs 106 hs] 0), (2, .i .i64 t2), (3, .rs 42 t3), (13, .i .i64 t13), (14, .p 4 0 0), (134, .rs 106 t134), (135, .i .i64 t135), (136, .i .i64 t136), (175, .rs 42 t175), (176, .i .i64 t176), (177, .i .i64 t177)], m := [(0, .dead), (1, .dead), (2, .dead), (3, .dead), (4, .row 106 [[.i .i64 m4_0, .i .i64 m4_1, .i .i64 m4_2, .i .i64 m4_3]])], nx := 5, nt := 241 }
noncomputable def ou14yda (os hs : List (List AV)) (t2 : Int) (t3 : List (List AV)) (t13 : Int) (t134 : List (List AV)) (t135 t136 : Int) (t175 : List (List AV)) (t176 m4_0 m4_1 m4_2 m4_3 : Int) : T14yda → Ex × St
  | .x0 t2' t177 => (.ret, o14yda_0 os hs t2 t3 t13 t134 t135 t136 t175 t176 m4_0 m4_1 m4_2 m4_3 t2' t177)
  | .x1 t177 => (.ext 9, o14yda_1 os hs t2 t3 t13 t134 t135 t136 t175 t176 m4_0 m4_1 m4_2 m4_3 t177)
noncomputable def r14yda (os hs : List (List AV)) (t2 : Int) (t3 : List (List AV)) (t13 : Int) (t134 : List (List AV)) (t135 t136 : Int) (t175 : List (List AV)) (t176 m4_0 m4_1 m4_2 m4_3 t177 : Int) : Option T14yda := run (fun x => stp14yda os hs t2 t3 t13 t134 t135 t136 t175 t176 m4_0 m4_1 m4_2 m4_3 x.t177) (⟨t177⟩ : S14yda)
noncomputable def i14yda_0 (os hs : List (List AV)) (t2 : Int) (t3 : List (List AV)) (t13 : Int) (t134 : List (List AV)) (t135 t136 : Int) (t175 : List (List AV)) (t176 m4_0 m4_1 m4_2 m4_3 t177 : Int) : Bool := match r14yda os hs t2 t3 t13 t134 t135 t136 t175 t176 m4_0 m4_1 m4_2 m4_3 t177 with
  | some (.x0 _ _) => true
  | _ => false
noncomputable def v14yda_0_t2' (os hs : List (List AV)) (t2 : Int) (t3 : List (List AV)) (t13 : Int) (t134 : List (List AV)) (t135 t136 : Int) (t175 : List (List AV)) (t176 m4_0 m4_1 m4_2 m4_3 t177 : Int) : Int := match r14yda os hs t2 t3 t13 t134 t135 t136 t175 t176 m4_0 m4_1 m4_2 m4_3 t177 with
  | some (.x0 t2' _) => t2'
  | _ => default
noncomputable def v14yda_0_t177 (os hs : List (List AV)) (t2 : Int) (t3 : List (List AV)) (t13 : Int) (t134 : List (List AV)) (t135 t136 : Int) (t175 : List (List AV)) (t176 m4_0 m4_1 m4_2 m4_3 t177 : Int) : Int := match r14yda os hs t2 t3 t13 t134 t135 t136 t175 t176 m4_0 m4_1 m4_2 m4_3 t177 with
  | some (.x0 _ t177) => t177
  | _ => default
noncomputable def i14yda_1 (os hs : List (List AV)) (t2 : Int) (t3 : List (List AV)) (t13 : Int) (t134 : List (List AV)) (t135 t136 : Int) (t175 : List (List AV)) (t176 m4_0 m4_1 m4_2 m4_3 t177 : Int) : Bool := match r14yda os hs t2 t3 t13 t134 t135 t136 t175 t176 m4_0 m4_1 m4_2 m4_3 t177 with
  | some (.x1 _) => true
  | _ => false
noncomputable def v14yda_1_t177 (os hs : List (List AV)) (t2 : Int) (t3 : List (List AV)) (t13 : Int) (t134 : List (List AV)) (t135 t136 : Int) (t175 : List (List AV)) (t176 m4_0 m4_1 m4_2 m4_3 t177 : Int) : Int := match r14yda os hs t2 t3 t13 t134 t135 t136 t175 t176 m4_0 m4_1 m4_2 m4_3 t177 with
  | some (.x1 t177) => t177
  | _ => default
noncomputable def l14yda (st : St) : Option (List (Bool × Ex × St)) := match normW Try.prog [(1, none), (2, none), (3, none), (13, none), (14, none), (134, none), (135, none), (136, none), (175, none), (176, none), (177, none)] 5 st with
  | some ([.rp [.sl 42, .sl 106] [.rs 42 os, .rs 106 hs] 0, .i .i64 t2, .rs 42 t3, .i .i64 t13, .p 4 0 0, .rs 106 t134, .i .i64 t135, .i .i64 t136, .rs 42 t175, .i .i64 t176, .i .i64 t177], [(0, .dead), (1, .dead), (2, .dead), (3, .dead), (4, .row 106 [[.i .i64 m4_0, .i .i64 m4_1, .i .i64 m4_2, .i .i64 m4_3]])], 5, 241) => some [(i14yda_0 os hs t2 t3 t13 t134 t135 t136 t175 t176 m4_0 m4_1 m4_2 m4_3 t177, .ret, o14yda_0 os hs t2 t3 t13 t134 t135 t136 t175 t176 m4_0 m4_1 m4_2 m4_3 (v14yda_0_t2' os hs t2 t3 t13 t134 t135 t136 t175 t176 m4_0 m4_1 m4_2 m4_3 t177) (v14yda_0_t177 os hs t2 t3 t13 t134 t135 t136 t175 t176 m4_0 m4_1 m4_2 m4_3 t177)), (i14yda_1 os hs t2 t3 t13 t134 t135 t136 t175 t176 m4_0 m4_1 m4_2 m4_3 t177, .ext 9, o14yda_1 os hs t2 t3 t13 t134 t135 t136 t175 t176 m4_0 m4_1 m4_2 m4_3 (v14yda_1_t177 os hs t2 t3 t13 t134 t135 t136 t175 t176 m4_0 m4_1 m4_2 m4_3 t177))]
  | _ => none
noncomputable def lp14ydb : Code := loopAt c14y [true, true, true, true, true, true, true, true, true, false, true, false, false, true, true, false, false, true, true, true, true, false]
noncomputable def s14ydb (os hs : List (List AV)) (t2 : Int) (t3 t134 : List (List AV)) (t135 t136 : Int) (t201 : List (List AV)) (t202 t203 m4_0 m4_1 m4_2 m4_3 : Int) : St :=
  { t := [(1, .rp [.sl 42, .sl 106] [.rs 42 os, .rs 106 hs] 0), (2, .i .i64 t2), (3, .rs 42 t3), (14, .p 4 0 0), (134, .rs 106 t134), (135, .i .i64 t135), (136, .i .i64 t136), (201, .rs 106 t201), (202, .i .i64 t202), (203, .i .i64 t203)], m := [(0, .dead), (1, .dead), (2, .dead), (3, .dead), (4, .row 106 [[.i .i64 m4_0, .i .i64 m4_1, .i .i64 m4_2, .i .i64 m4_3]])], nx := 5, nt := 241 }
structure S14ydb where
  t203 : Int
inductive T14ydb where
  | x0 (t2' : Int) (t203 : Int)
  | x1 (t203 : Int)
noncomputable def stp14ydb (os hs : List (List AV)) (t2 : Int) (t3 t134 : List (List AV)) (t135 t136 : Int) (t201 : List (List AV)) (t202 m4_0 m4_1 m4_2 m4_3 t203 : Int) : Lp S14ydb T14ydb :=
  cond (decide (t203 < t202)) (cond (inb t203 t201.length) (cond (decide (bmax (fI (t201.getD t203.toNat []) 0) m4_0 ≤ bmin (fI (t201.getD t203.toNat []) 2) m4_2)) (cond (decide (bmax (fI (t201.getD t203.toNat []) 1) m4_1 ≤ bmin (fI (t201.getD t203.toNat []) 3) m4_3)) (.out (.x0 10 t203)) (.go ⟨IntKind.i64.wrap (t203 + 1)⟩)) (.go ⟨IntKind.i64.wrap (t203 + 1)⟩)) (.bad)) (.out (.x1 t203))
noncomputable def o14ydb_0 (os hs : List (List AV)) (t2 : Int) (t3 t134 : List (List AV)) (t135 t136 : Int) (t201 : List (List AV)) (t202 m4_0 m4_1 m4_2 m4_3 t2' t203 : Int) : St :=
  { t := [(1, .rp [.sl 42, .sl 106] [.rs 42 os, .rs 106 hs] 0), (2, .i .i64 t2'), (3, .rs 42 t3), (14, .p 4 0 0), (134, .rs 106 t134), (135, .i .i64 t135), (136, .i .i64 t136), (201, .rs 106 t201), (202, .i .i64 t202), (203, .i .i64 t203)], m := [(0, .dead), (1, .dead), (2, .dead), (3, .dead), (4, .row 106 [[.i .i64 m4_0, .i .i64 m4_1, .i .i64 m4_2, .i .i64 m4_3]])], nx := 5, nt := 241 }
noncomputable def o14ydb_1 (os hs : List (List AV)) (t2 : Int) (t3 t134 : List (List AV)) (t135 t136 : Int) (t201 : List (List AV)) (t202 m4_0 m4_1 m4_2 m4_3 t203 : Int) : St :=
  { t := [(1, .rp [.sl 42, .sl 106] [.rs 42 os, .rs 106 hs] 0), (2, .i .i64 t2), (3, .rs 42 t3), (14, .p 4 0 0), (134, .rs 106 t134), (135, .i .i64 t135), (136, .i .i64 t136), (201, .rs 106 t201), (202, .i .i64 t202), (203, .i .i64 t203)], m := [(0, .dead), (1, .dead), (2, .dead), (3, .dead), (4, .row 106 [[.i .i64 m4_0, .i .i64 m4_1, .i .i64 m4_2, .i .i64 m4_3]])], nx := 5, nt := 241 }
noncomputable def ou14ydb (os hs : List (List AV)) (t2 : Int) (t3 t134 : List (List AV)) (t135 t136 : Int) (t201 : List (List AV)) (t202 m4_0 m4_1 m4_2 m4_3 : Int) : T14ydb → Ex × St
  | .x0 t2' t203 => (.ret, o14ydb_0 os hs t2 t3 t134 t135 t136 t201 t202 m4_0 m4_1 m4_2 m4_3 t2' t203)
  | .x1 t203 => (.ext 11, o14ydb_1 os hs t2 t3 t134 t135 t136 t201 t202 m4_0 m4_1 m4_2 m4_3 t203)
noncomputable def r14ydb (os hs : List (List AV)) (t2 : Int) (t3 t134 : List (List AV)) (t135 t136 : Int) (t201 : List (List AV)) (t202 m4_0 m4_1 m4_2 m4_3 t203 : Int) : Option T14ydb := run (fun x => stp14ydb os hs t2 t3 t134 t135 t136 t201 t202 m4_0 m4_1 m4_2 m4_3 x.t203) (⟨t203⟩ : S14ydb)
noncomputable def i14ydb_0 (os hs : List (List AV)) (t2 : Int) (t3 t134 : List (List AV)) (t135 t136 : Int) (t201 : List (List AV)) (t202 m4_0 m4_1 m4_2 m4_3 t203 : Int) : Bool := match r14ydb os hs t2 t3 t134 t135 t136 t201 t202 m4_0 m4_1 m4_2 m4_3 t203 with
  | some (.x0 _ _) => true
  | _ => false
noncomputable def v14ydb_0_t2' (os hs : List (List AV)) (t2 : Int) (t3 t134 : List (List AV)) (t135 t136 : Int) (t201 : List (List AV)) (t202 m4_0 m4_1 m4_2 m4_3 t203 : Int) : Int := match r14ydb os hs t2 t3 t134 t135 t136 t201 t202 m4_0 m4_1 m4_2 m4_3 t203 with
  | some (.x0 t2' _) => t2'
  | _ => default
noncomputable def v14ydb_0_t203 (os hs : List (List AV)) (t2 : Int) (t3 t134 : List (List AV)) (t135 t136 : Int) (t201 : List (List AV)) (t202 m4_0 m4_1 m4_2 m4_3 t203 : Int) : Int := match r14ydb os hs t2 t3 t134 t135 t136 t201 t202 m4_0 m4_1 m4_2 m4_3 t203 with
  | some (.x0 _ t203) => t203
  | _ => default
noncomputable def i14ydb_1 (os hs : List (List AV)) (t2 : Int) (t3 t134 : List (List AV)) (t135 t136 : Int) (t201 : List (List AV)) (t202 m4_0 m4_1 m4_2 m4_3 t203 : Int) : Bool := match r14ydb os hs t2 t3 t134 t135 t136 t201 t202 m4_0 m4_1 m4_2 m4_3 t203 with
  | some (.x1 _) => true
  | _ => false
noncomputable def v14ydb_1_t203 (os hs : List (List AV)) (t2 : Int) (t3 t134 : List (List AV)) (t135 t136 : Int) (t201 : List (List AV)) (t202 m4_0 m4_1 m4_2 m4_3 t203 : Int) : Int := match r14ydb os hs t2 t3 t134 t135 t136 t201 t202 m4_0 m4_1 m4_2 m4_3 t203 with
  | some (.x1 t203) => t203
  | _ => default
noncomputable def l14ydb (st : St) : Option (List (Bool × Ex × St)) := match normW Try.prog [(1, none), (2, none), (3, none), (14, none), (134, none), (135, none), (136, none), (201, none), (202, none), (203, none)] 5 st with
  | some ([.rp [.sl 42, .sl 106] [.rs 42 os, .rs 106 hs] 0, .i .i64 t2, .rs 42 t3, .p 4 0 0, .rs 106 t134, .i .i64 t135, .i .i64 t136, .rs 106 t201, .i .i64 t202, .i .i64 t203], [(0, .dead), (1, .dead), (2, .dead), (3, .dead), (4, .row 106 [[.i .i64 m4_0, .i .i64 m4_1, .i .i64 m4_2, .i .i64 m4_3]])], 5, 241) => some [(i14ydb_0 os hs t2 t3 t134 t135 t136 t201 t202 m4_0 m4_1 m4_2 m4_3 t203, .ret, o14ydb_0 os hs t2 t3 t134 t135 t136 t201 t202 m4_0 m4_1 m4_2 m4_3 (v14ydb_0_t2' os hs t2 t3 t134 t135 t136 t201 t202 m4_0 m4_1 m4_2 m4_3 t203) (v14ydb_0_t203 os hs t2 t3 t134 t135 t136 t201 t202 m4_0 m4_1 m4_2 m4_3 t203)), (i14ydb_1 os hs t2 t3 t134 t135 t136 t201 t202 m4_0 m4_1 m4_2 m4_3 t203, .ext 11, o14ydb_1 os hs t2 t3 t134 t135 t136 t201 t202 m4_0 m4_1 m4_2 m4_3 (v14ydb_1_t203 os hs t2 t3 t134 t135 t136 t201 t202 m4_0 m4_1 m4_2 m4_3 t203))]
  | _ => none
structure S14yd where
  t136 : Int
inductive T14yd where
  | x0 (t2' : Int) (t136 : Int)
  | x1 (t136 : Int)
noncomputable def stp14yd (os hs : List (List AV)) (t2 : Int) (t3 t134 : List (List AV)) (t135 t136 : Int) : Lp S14yd T14yd :=
  cond (decide (t136 < t135)) (cond (inb t136 t134.length) (cond (decide (fI (t134.getD t136.toNat []) 0 ≥ fI (t134.getD t136.toNat []) 2)) (.out (.x0 1 t136)) (cond (decide (fI (t134.getD t136.toNat []) 1 ≥ fI (t134.getD t136.toNat []) 3)) (.out (.x0 1 t136)) (cond (i14yda_0 os hs t2 t3 t136 t134 t135 t136 [[AV.i IntKind.i64 (fI (t134.getD t136.toNat []) 0), AV.i IntKind.i64 (fI (t134.getD t136.toNat []) 1)], [AV.i IntKind.i64 (fI (t134.getD t136.toNat []) 2), AV.i IntKind.i64 (fI (t134.getD t136.toNat []) 3)], [AV.i IntKind.i64 (fI (t134.getD t136.toNat []) 0), AV.i IntKind.i64 (fI (t134.getD t136.toNat []) 3)], [AV.i IntKind.i64 (fI (t134.getD t136.toNat []) 2), AV.i IntKind.i64 (fI (t134.getD t136.toNat []) 1)]] (↑[[AV.i IntKind.i64 (fI (t134.getD t136.toNat []) 0), AV.i IntKind.i64 (fI (t134.getD t136.toNat []) 1)], [AV.i IntKind.i64 (fI (t134.getD t136.toNat []) 2), AV.i IntKind.i64 (fI (t134.getD t136.toNat []) 3)], [AV.i IntKind.i64 (fI (t134.getD t136.toNat []) 0), AV.i IntKind.i64 (fI (t134.getD t136.toNat []) 3)], [AV.i IntKind.i64 (fI (t134.getD t136.toNat []) 2), AV.i IntKind.i64 (fI (t134.getD t136.toNat []) 1)]].length : Int) (fI (t134.getD t136.toNat []) 0) (fI (t134.getD t136.toNat []) 1) (fI (t134.getD t136.toNat []) 2) (fI (t134.getD t136.toNat []) 3) 0) (.out (.x0 (v14yda_0_t2' os hs t2 t3 t136 t134 t135 t136 [[AV.i IntKind.i64 (fI (t134.getD t136.toNat []) 0), AV.i IntKind.i64 (fI (t134.getD t136.toNat []) 1)], [AV.i IntKind.i64 (fI (t134.getD t136.toNat []) 2), AV.i IntKind.i64 (fI (t134.getD t136.toNat []) 3)], [AV.i IntKind.i64 (fI (t134.getD t136.toNat []) 0), AV.i IntKind.i64 (fI (t134.getD t136.toNat []) 3)], [AV.i IntKind.i64 (fI (t134.getD t136.toNat []) 2), AV.i IntKind.i64 (fI (t134.getD t136.toNat []) 1)]] (↑[[AV.i IntKind.i64 (fI (t134.getD t136.toNat []) 0), AV.i IntKind.i64 (fI (t134.getD t136.toNat []) 1)], [AV.i IntKind.i64 (fI (t134.getD t136.toNat []) 2), AV.i IntKind.i64 (fI (t134.getD t136.toNat []) 3)], [AV.i IntKind.i64 (fI (t134.getD t136.toNat []) 0), AV.i IntKind.i64 (fI (t134.getD t136.toNat []) 3)], [AV.i IntKind.i64 (fI (t134.getD t136.toNat []) 2), AV.i IntKind.i64 (fI (t134.getD t136.toNat []) 1)]].length : Int) (fI (t134.getD t136.toNat []) 0) (fI (t134.getD t136.toNat []) 1) (fI (t134.getD t136.toNat []) 2) (fI (t134.getD t136.toNat []) 3) 0) t136)) (cond (i14yda_1 os hs t2 t3 t136 t134 t135 t136 [[AV.i IntKind.i64 (fI (t134.getD t136.toNat []) 0), AV.i IntKind.i64 (fI (t134.getD t136.toNat []) 1)], [AV.i IntKind.i64 (fI (t134.getD t136.toNat []) 2), AV.i IntKind.i64 (fI (t134.getD t136.toNat []) 3)], [AV.i IntKind.i64 (fI (t134.getD t136.toNat []) 0), AV.i IntKind.i64 (fI (t134.getD t136.toNat []) 3)], [AV.i IntKind.i64 (fI (t134.getD t136.toNat []) 2), AV.i IntKind.i64 (fI (t134.getD t136.toNat []) 1)]] (↑[[AV.i IntKind.i64 (fI (t134.getD t136.toNat []) 0), AV.i IntKind.i64 (fI (t134.getD t136.toNat []) 1)], [AV.i IntKind.i64 (fI (t134.getD t136.toNat []) 2), AV.i IntKind.i64 (fI (t134.getD t136.toNat []) 3)], [AV.i IntKind.i64 (fI (t134.getD t136.toNat []) 0), AV.i IntKind.i64 (fI (t134.getD t136.toNat []) 3)], [AV.i IntKind.i64 (fI (t134.getD t136.toNat []) 2), AV.i IntKind.i64 (fI (t134.getD t136.toNat []) 1)]].length : Int) (fI (t134.getD t136.toNat []) 0) (fI (t134.getD t136.toNat []) 1) (fI (t134.getD t136.toNat []) 2) (fI (t134.getD t136.toNat []) 3) 0) (cond (decide (0 ≤ t136) && decide (t136 ≤ (↑hs.length : Int))) (cond (i14ydb_0 os hs t2 t3 t134 t135 t136 (List.drop 0 (List.take t136.toNat hs)) (↑(List.drop 0 (List.take t136.toNat hs)).length : Int) (fI (t134.getD t136.toNat []) 0) (fI (t134.getD t136.toNat []) 1) (fI (t134.getD t136.toNat []) 2) (fI (t134.getD t136.toNat []) 3) 0) (.out (.x0 (v14ydb_0_t2' os hs t2 t3 t134 t135 t136 (List.drop 0 (List.take t136.toNat hs)) (↑(List.drop 0 (List.take t136.toNat hs)).length : Int) (fI (t134.getD t136.toNat []) 0) (fI (t134.getD t136.toNat []) 1) (fI (t134.getD t136.toNat []) 2) (fI (t134.getD t136.toNat []) 3) 0) t136)) (cond (i14ydb_1 os hs t2 t3 t134 t135 t136 (List.drop 0 (List.take t136.toNat hs)) (↑(List.drop 0 (List.take t136.toNat hs)).length : Int) (fI (t134.getD t136.toNat []) 0) (fI (t134.getD t136.toNat []) 1) (fI (t134.getD t136.toNat []) 2) (fI (t134.getD t136.toNat []) 3) 0) (.go ⟨IntKind.i64.wrap (t136 + 1)⟩) (.bad))) (.bad)) (.bad))))) (.bad)) (.out (.x1 t136))
noncomputable def o14yd_0 (os hs : List (List AV)) (t2 : Int) (t3 t134 : List (List AV)) (t135 t2' t136 : Int) : St :=
  { t := [(1, .rp [.sl 42, .sl 106] [.rs 42 os, .rs 106 hs] 0), (2, .i .i64 t2'), (3, .rs 42 t3), (134, .rs 106 t134), (135, .i .i64 t135), (136, .i .i64 t136)], m := [], nx := 0, nt := 241 }
noncomputable def o14yd_1 (os hs : List (List AV)) (t2 : Int) (t3 t134 : List (List AV)) (t135 t136 : Int) : St :=
  { t := [(1, .rp [.sl 42, .sl 106] [.rs 42 os, .rs 106 hs] 0), (2, .i .i64 t2), (3, .rs 42 t3), (134, .rs 106 t134), (135, .i .i64 t135), (136, .i .i64 t136)], m := [], nx := 0, nt := 241 }
noncomputable def ou14yd (os hs : List (List AV)) (t2 : Int) (t3 t134 : List (List AV)) (t135 : Int) : T14yd → Ex × St
  | .x0 t2' t136 => (.ret, o14yd_0 os hs t2 t3 t134 t135 t2' t136)
  | .x1 t136 => (.ext 7, o14yd_1 os hs t2 t3 t134 t135 t136)
noncomputable def r14yd (os hs : List (List AV)) (t2 : Int) (t3 t134 : List (List AV)) (t135 t136 : Int) : Option T14yd := run (fun x => stp14yd os hs t2 t3 t134 t135 x.t136) (⟨t136⟩ : S14yd)
noncomputable def i14yd_0 (os hs : List (List AV)) (t2 : Int) (t3 t134 : List (List AV)) (t135 t136 : Int) : Bool := match r14yd os hs t2 t3 t134 t135 t136 with
  | some (.x0 _ _) => true
  | _ => false
noncomputable def v14yd_0_t2' (os hs : List (List AV)) (t2 : Int) (t3 t134 : List (List AV)) (t135 t136 : Int) : Int := match r14yd os hs t2 t3 t134 t135 t136 with
  | some (.x0 t2' _) => t2'
  | _ => default
noncomputable def v14yd_0_t136 (os hs : List (List AV)) (t2 : Int) (t3 t134 : List (List AV)) (t135 t136 : Int) : Int := match r14yd os hs t2 t3 t134 t135 t136 with
  | some (.x0 _ t136) => t136
  | _ => default
noncomputable def i14yd_1 (os hs : List (List AV)) (t2 : Int) (t3 t134 : List (List AV)) (t135 t136 : Int) : Bool := match r14yd os hs t2 t3 t134 t135 t136 with
  | some (.x1 _) => true
  | _ => false
noncomputable def v14yd_1_t136 (os hs : List (List AV)) (t2 : Int) (t3 t134 : List (List AV)) (t135 t136 : Int) : Int := match r14yd os hs t2 t3 t134 t135 t136 with
  | some (.x1 t136) => t136
  | _ => default
noncomputable def l14yd (st : St) : Option (List (Bool × Ex × St)) := match normW Try.prog [(1, none), (2, none), (3, none), (134, none), (135, none), (136, none)] 0 st with
  | some ([.rp [.sl 42, .sl 106] [.rs 42 os, .rs 106 hs] 0, .i .i64 t2, .rs 42 t3, .rs 106 t134, .i .i64 t135, .i .i64 t136], [], 0, 241) => some [(i14yd_0 os hs t2 t3 t134 t135 t136, .ret, o14yd_0 os hs t2 t3 t134 t135 (v14yd_0_t2' os hs t2 t3 t134 t135 t136) (v14yd_0_t136 os hs t2 t3 t134 t135 t136)), (i14yd_1 os hs t2 t3 t134 t135 t136, .ext 7, o14yd_1 os hs t2 t3 t134 t135 (v14yd_1_t136 os hs t2 t3 t134 t135 t136))]
  | _ => none
noncomputable def L14y : LSpec := fun p st => match p with
  | [false, true, false, true, true, true] => l14ya st
  | [false, true, false, true, true, true, true] => l14yb st
  | [false, true, false, true, true, true, true, true, true] => l14yc st
  | [false, true, false, true, true, false, false, true, true, false, false, true, false, true, true, true, true, true, true, true, true, true] => l14yda st
  | [false, true, true, true, true, false, false, true, true, false, false, true, false, true, true, true, true, true, true, true, true, true] => l14ydb st
  | [false, true, false, true, true, true, true, true, true, true, true, true] => l14yd st
  | _ => none
theorem is14ya_0 (os hs : List (List AV)) (t2 : Int) (t3 t29 : List (List AV)) (t30 t31 : Int) (h : i14ya_0 os hs t2 t3 t29 t30 t31 = true) : r14ya os hs t2 t3 t29 t30 t31 = some (.x0 (v14ya_0_t2' os hs t2 t3 t29 t30 t31) (v14ya_0_t31 os hs t2 t3 t29 t30 t31)) := by
  unfold i14ya_0 at h
  unfold v14ya_0_t2' v14ya_0_t31
  generalize r14ya os hs t2 t3 t29 t30 t31 = r at h ⊢
  rcases r with _ | y
  · cases h
  · cases y <;> first | rfl | cases h
theorem is14ya_1 (os hs : List (List AV)) (t2 : Int) (t3 t29 : List (List AV)) (t30 t31 : Int) (h : i14ya_1 os hs t2 t3 t29 t30 t31 = true) : r14ya os hs t2 t3 t29 t30 t31 = some (.x1 (v14ya_1_t31 os hs t2 t3 t29 t30 t31)) := by
  unfold i14ya_1 at h
  unfold v14ya_1_t31
  generalize r14ya os hs t2 t3 t29 t30 t31 = r at h ⊢
  rcases r with _ | y
  · cases h
  · cases y <;> first | rfl | cases h
theorem round14ya (os hs : List (List AV)) (t2 : Int) (t3 t29 : List (List AV)) (t30 t31 : Int) : round Try.prog SY3 (ro 14) L14y lp14ya [false, true, false, true, true, true] [(1, none), (2, none), (3, none), (29, none), (30, none), (31, none)] 0 (s14ya os hs t2 t3 t29 t30 t31) =
    cond (decide (t31 < t30)) (cond (inb t31 t29.length) (cond (g32y (fI (t29.getD t31.toNat []) 0) 0 400) (cond (!w32y_0 (fI (t29.getD t31.toNat []) 0) 0 400) (some (.ret, o14ya_0 os hs t2 t3 t29 t30 1 t31)) (cond (g32y (fI (t29.getD t31.toNat []) 1) 0 400) (cond (!w32y_0 (fI (t29.getD t31.toNat []) 1) 0 400) (some (.ret, o14ya_0 os hs t2 t3 t29 t30 1 t31)) (some (.nrm, s14ya os hs t2 t3 t29 t30 (IntKind.i64.wrap (t31 + 1))))) (none))) (none)) (none)) (some (.ext 1, o14ya_1 os hs t2 t3 t29 t30 t31)) := by kernel_rfl
theorem rnd14ya (os hs : List (List AV)) (t2 : Int) (t3 t29 : List (List AV)) (t30 : Int) (x : S14ya) : round Try.prog SY3 (ro 14) L14y lp14ya [false, true, false, true, true, true] [(1, none), (2, none), (3, none), (29, none), (30, none), (31, none)] 0 ((fun x => s14ya os hs t2 t3 t29 t30 x.t31) x) = toR (fun x => s14ya os hs t2 t3 t29 t30 x.t31) (ou14ya os hs t2 t3 t29 t30) (stp14ya os hs t2 t3 t29 t30 x.t31) := by
  refine (round14ya _ _ _ _ _ _ _ ).trans ?_
  unfold stp14ya
  simp only [toR_cond]
  rfl
theorem lok14ya {st : St} {outs : List (Bool × Ex × St)} {e : Ex} {s : St} (hl : l14ya st = some outs) (hch : Chosen outs e s) :
    ∃ keep nb, 0 ≤ nb ∧ LB Try.prog SY3 (ro 14) L14y lp14ya [false, true, false, true, true, true] keep nb st e s := by
  unfold l14ya at hl
  split at hl
  · rename_i os hs t2 t3 t29 t30 t31 hno
    cases hl
    have hno := normW_norm hno
    refine ⟨_, _, ?_, .enter hno ?_⟩
    · decide
    have main := fun y h => LB_run (x := (⟨t31⟩ : S14ya)) (y := y) (nb := 0) (fun y => by cases y <;> simp [ou14ya]) (rnd14ya os hs t2 t3 t29 t30) h
    obtain ⟨x, hx, hg, rfl, rfl⟩ := chosen_any hch
    simp only [List.mem_cons, List.not_mem_nil, or_false] at hx
    rcases hx with rfl | rfl
    · exact main _ (is14ya_0 os hs t2 t3 t29 t30 t31 hg)
    · exact main _ (is14ya_1 os hs t2 t3 t29 t30 t31 hg)
  · cases hl
theorem is14yb_0 (os hs : List (List AV)) (t2 : Int) (t3 t46 : List (List AV)) (t47 t48 : Int) (h : i14yb_0 os hs t2 t3 t46 t47 t48 = true) : r14yb os hs t2 t3 t46 t47 t48 = some (.x0 (v14yb_0_t2' os hs t2 t3 t46 t47 t48) (v14yb_0_t48 os hs t2 t3 t46 t47 t48)) := by
  unfold i14yb_0 at h
  unfold v14yb_0_t2' v14yb_0_t48
  generalize r14yb os hs t2 t3 t46 t47 t48 = r at h ⊢
  rcases r with _ | y
  · cases h
  · cases y <;> first | rfl | cases h
theorem is14yb_1 (os hs : List (List AV)) (t2 : Int) (t3 t46 : List (List AV)) (t47 t48 : Int) (h : i14yb_1 os hs t2 t3 t46 t47 t48 = true) : r14yb os hs t2 t3 t46 t47 t48 = some (.x1 (v14yb_1_t48 os hs t2 t3 t46 t47 t48)) := by
  unfold i14yb_1 at h
  unfold v14yb_1_t48
  generalize r14yb os hs t2 t3 t46 t47 t48 = r at h ⊢
  rcases r with _ | y
  · cases h
  · cases y <;> first | rfl | cases h
theorem round14yb (os hs : List (List AV)) (t2 : Int) (t3 t46 : List (List AV)) (t47 t48 : Int) : round Try.prog SY3 (ro 14) L14y lp14yb [false, true, false, true, true, true, true] [(1, none), (2, none), (3, none), (46, none), (47, none), (48, none)] 0 (s14yb os hs t2 t3 t46 t47 t48) =
    cond (decide (t48 < t47)) (cond (inb t48 t46.length) (cond (decide (0 ≤ t48) && decide (t48 ≤ (↑t3.length : Int))) (cond (g33y (List.drop 0 (List.take t48.toNat t3)) (fI (t46.getD t48.toNat []) 0) (fI (t46.getD t48.toNat []) 1)) (cond (w33y_0 (List.drop 0 (List.take t48.toNat t3)) (fI (t46.getD t48.toNat []) 0) (fI (t46.getD t48.toNat []) 1)) (some (.ret, o14yb_0 os hs t2 t3 t46 t47 6 t48)) (some (.nrm, s14yb os hs t2 t3 t46 t47 (IntKind.i64.wrap (t48 + 1))))) (none)) (none)) (none)) (some (.ext 3, o14yb_1 os hs t2 t3 t46 t47 t48)) := by kernel_rfl
theorem rnd14yb (os hs : List (List AV)) (t2 : Int) (t3 t46 : List (List AV)) (t47 : Int) (x : S14yb) : round Try.prog SY3 (ro 14) L14y lp14yb [false, true, false, true, true, true, true] [(1, none), (2, none), (3, none), (46, none), (47, none), (48, none)] 0 ((fun x => s14yb os hs t2 t3 t46 t47 x.t48) x) = toR (fun x => s14yb os hs t2 t3 t46 t47 x.t48) (ou14yb os hs t2 t3 t46 t47) (stp14yb os hs t2 t3 t46 t47 x.t48) := by
  refine (round14yb _ _ _ _ _ _ _ ).trans ?_
  unfold stp14yb
  simp only [toR_cond]
  rfl
theorem lok14yb {st : St} {outs : List (Bool × Ex × St)} {e : Ex} {s : St} (hl : l14yb st = some outs) (hch : Chosen outs e s) :
    ∃ keep nb, 0 ≤ nb ∧ LB Try.prog SY3 (ro 14) L14y lp14yb [false, true, false, true, true, true, true] keep nb st e s := by
  unfold l14yb at hl
  split at hl
  · rename_i os hs t2 t3 t46 t47 t48 hno
    cases hl
    have hno := normW_norm hno
    refine ⟨_, _, ?_, .enter hno ?_⟩
    · decide
    have main := fun y h => LB_run (x := (⟨t48⟩ : S14yb)) (y := y) (nb := 0) (fun y => by cases y <;> simp [ou14yb]) (rnd14yb os hs t2 t3 t46 t47) h
    obtain ⟨x, hx, hg, rfl, rfl⟩ := chosen_any hch
    simp only [List.mem_cons, List.not_mem_nil, or_false] at hx
    rcases hx with rfl | rfl
    · exact main _ (is14yb_0 os hs t2 t3 t46 t47 t48 hg)
    · exact main _ (is14yb_1 os hs t2 t3 t46 t47 t48 hg)
  · cases hl
theorem is14yc_0 (os hs : List (List AV)) (t2 : Int) (t3 t59 : List (List AV)) (t60 : Int) (t8 : Bool) (t61 : Int) (h : i14yc_0 os hs t2 t3 t59 t60 t8 t61 = true) : r14yc os hs t2 t3 t59 t60 t8 t61 = some (.x0 (v14yc_0_t2' os hs t2 t3 t59 t60 t8 t61) (v14yc_0_t8 os hs t2 t3 t59 t60 t8 t61) (v14yc_0_t61 os hs t2 t3 t59 t60 t8 t61)) := by
  unfold i14yc_0 at h
  unfold v14yc_0_t2' v14yc_0_t8 v14yc_0_t61
  generalize r14yc os hs t2 t3 t59 t60 t8 t61 = r at h ⊢
  rcases r with _ | y
  · cases h
  · cases y <;> first | rfl | cases h
theorem is14yc_1 (os hs : List (List AV)) (t2 : Int) (t3 t59 : List (List AV)) (t60 : Int) (t8 : Bool) (t61 : Int) (h : i14yc_1 os hs t2 t3 t59 t60 t8 t61 = true) : r14yc os hs t2 t3 t59 t60 t8 t61 = some (.x1 (v14yc_1_t8 os hs t2 t3 t59 t60 t8 t61) (v14yc_1_t61 os hs t2 t3 t59 t60 t8 t61)) := by
  unfold i14yc_1 at h
  unfold v14yc_1_t8 v14yc_1_t61
  generalize r14yc os hs t2 t3 t59 t60 t8 t61 = r at h ⊢
  rcases r with _ | y
  · cases h
  · cases y <;> first | rfl | cases h
theorem round14yc (os hs : List (List AV)) (t2 : Int) (t3 : List (List AV)) (t8 : Bool) (t59 : List (List AV)) (t60 t61 : Int) : round Try.prog SY3 (ro 14) L14y lp14yc [false, true, false, true, true, true, true, true, true] [(1, none), (2, none), (3, none), (8, none), (59, none), (60, none), (61, none)] 0 (s14yc os hs t2 t3 t8 t59 t60 t61) =
    cond (decide (t61 < t60)) (cond (inb t61 t59.length) (cond (decide ((↑t3.length : Int) = 0)) (none) (cond (inb ((IntKind.i64.wrap (t61 + 1)).tmod (↑t3.length : Int)) t3.length) (cond (decide ((↑t3.length : Int) = 0)) (none) (cond (inb ((IntKind.i64.wrap (t61 + 2)).tmod (↑t3.length : Int)) t3.length) (cond (g34y t3 (fI (t59.getD t61.toNat []) 0) (fI (t59.getD t61.toNat []) 1) 0) (cond (!w34y_0 t3 (fI (t59.getD t61.toNat []) 0) (fI (t59.getD t61.toNat []) 1) 0) (some (.ret, o14yc_0 os hs t2 t3 t59 t60 9 t8 t61)) (cond (w35y_0 (fI (t59.getD t61.toNat []) 0) (fI (t59.getD t61.toNat []) 1) (fI (t3.getD ((IntKind.i64.wrap (t61 + 1)).tmod (↑t3.length : Int)).toNat []) 0) (fI (t3.getD ((IntKind.i64.wrap (t61 + 1)).tmod (↑t3.length : Int)).toNat []) 1) (fI (t3.getD ((IntKind.i64.wrap (t61 + 2)).tmod (↑t3.length : Int)).toNat []) 0) (fI (t3.getD ((IntKind.i64.wrap (t61 + 2)).tmod (↑t3.length : Int)).toNat []) 1) == 0) (cond (decide (IntKind.i64.wrap (IntKind.i64.wrap (IntKind.i64.wrap (fI (t3.getD ((IntKind.i64.wrap (t61 + 1)).tmod (↑t3.length : Int)).toNat []) 0 - fI (t59.getD t61.toNat []) 0) * IntKind.i64.wrap (fI (t3.getD ((IntKind.i64.wrap (t61 + 2)).tmod (↑t3.length : Int)).toNat []) 0 - fI (t3.getD ((IntKind.i64.wrap (t61 + 1)).tmod (↑t3.length : Int)).toNat []) 0)) + IntKind.i64.wrap (IntKind.i64.wrap (fI (t3.getD ((IntKind.i64.wrap (t61 + 1)).tmod (↑t3.length : Int)).toNat []) 1 - fI (t59.getD t61.toNat []) 1) * IntKind.i64.wrap (fI (t3.getD ((IntKind.i64.wrap (t61 + 2)).tmod (↑t3.length : Int)).toNat []) 1 - fI (t3.getD ((IntKind.i64.wrap (t61 + 1)).tmod (↑t3.length : Int)).toNat []) 1))) < 0)) (some (.ret, o14yc_0 os hs t2 t3 t59 t60 9 t8 t61)) (cond (t8) (some (.nrm, s14yc os hs t2 t3 (w35y_0 (fI (t59.getD t61.toNat []) 0) (fI (t59.getD t61.toNat []) 1) (fI (t3.getD ((IntKind.i64.wrap (t61 + 1)).tmod (↑t3.length : Int)).toNat []) 0) (fI (t3.getD ((IntKind.i64.wrap (t61 + 1)).tmod (↑t3.length : Int)).toNat []) 1) (fI (t3.getD ((IntKind.i64.wrap (t61 + 2)).tmod (↑t3.length : Int)).toNat []) 0) (fI (t3.getD ((IntKind.i64.wrap (t61 + 2)).tmod (↑t3.length : Int)).toNat []) 1) == 0) t59 t60 (IntKind.i64.wrap (t61 + 1)))) (some (.nrm, s14yc os hs t2 t3 false t59 t60 (IntKind.i64.wrap (t61 + 1)))))) (cond (t8) (some (.nrm, s14yc os hs t2 t3 (w35y_0 (fI (t59.getD t61.toNat []) 0) (fI (t59.getD t61.toNat []) 1) (fI (t3.getD ((IntKind.i64.wrap (t61 + 1)).tmod (↑t3.length : Int)).toNat []) 0) (fI (t3.getD ((IntKind.i64.wrap (t61 + 1)).tmod (↑t3.length : Int)).toNat []) 1) (fI (t3.getD ((IntKind.i64.wrap (t61 + 2)).tmod (↑t3.length : Int)).toNat []) 0) (fI (t3.getD ((IntKind.i64.wrap (t61 + 2)).tmod (↑t3.length : Int)).toNat []) 1) == 0) t59 t60 (IntKind.i64.wrap (t61 + 1)))) (some (.nrm, s14yc os hs t2 t3 false t59 t60 (IntKind.i64.wrap (t61 + 1))))))) (none)) (none))) (none))) (none)) (some (.ext 5, o14yc_1 os hs t2 t3 t59 t60 t8 t61)) := by kernel_rfl
theorem rnd14yc (os hs : List (List AV)) (t2 : Int) (t3 t59 : List (List AV)) (t60 : Int) (x : S14yc) : round Try.prog SY3 (ro 14) L14y lp14yc [false, true, false, true, true, true, true, true, true] [(1, none), (2, none), (3, none), (8, none), (59, none), (60, none), (61, none)] 0 ((fun x => s14yc os hs t2 t3 x.t8 t59 t60 x.t61) x) = toR (fun x => s14yc os hs t2 t3 x.t8 t59 t60 x.t61) (ou14yc os hs t2 t3 t59 t60) (stp14yc os hs t2 t3 t59 t60 x.t8 x.t61) := by
  refine (round14yc _ _ _ _ _ _ _ _ ).trans ?_
  unfold stp14yc
  simp only [toR_cond]
  rfl
theorem lok14yc {st : St} {outs : List (Bool × Ex × St)} {e : Ex} {s : St} (hl : l14yc st = some outs) (hch : Chosen outs e s) :
    ∃ keep nb, 0 ≤ nb ∧ LB Try.prog SY3 (ro 14) L14y lp14yc [false, true, false, true, true, true, true, true, true] keep nb st e s := by
  unfold l14yc at hl
  split at hl
  · rename_i os hs t2 t3 t8 t59 t60 t61 hno
    cases hl
    have hno := normW_norm hno
    refine ⟨_, _, ?_, .enter hno ?_⟩
    · decide
    have main := fun y h => LB_run (x := (⟨t8, t61⟩ : S14yc)) (y := y) (nb := 0) (fun y => by cases y <;> simp [ou14yc]) (rnd14yc os hs t2 t3 t59 t60) h
    obtain ⟨x, hx, hg, rfl, rfl⟩ := chosen_any hch
    simp only [List.mem_cons, List.not_mem_nil, or_false] at hx
    rcases hx with rfl | rfl
    · exact main _ (is14yc_0 os hs t2 t3 t59 t60 t8 t61 hg)
    · exact main _ (is14yc_1 os hs t2 t3 t59 t60 t8 t61 hg)
  · cases hl
theorem is14yda_0 (os hs : List (List AV)) (t2 : Int) (t3 : List (List AV)) (t13 : Int) (t134 : List (List AV)) (t135 t136 : Int) (t175 : List (List AV)) (t176 m4_0 m4_1 m4_2 m4_3 t177 : Int) (h : i14yda_0 os hs t2 t3 t13 t134 t135 t136 t175 t176 m4_0 m4_1 m4_2 m4_3 t177 = true) : r14yda os hs t2 t3 t13 t134 t135 t136 t175 t176 m4_0 m4_1 m4_2 m4_3 t177 = some (.x0 (v14yda_0_t2' os hs t2 t3 t13 t134 t135 t136 t175 t176 m4_0 m4_1 m4_2 m4_3 t177) (v14yda_0_t177 os hs t2 t3 t13 t134 t135 t136 t175 t176 m4_0 m4_1 m4_2 m4_3 t177)) := by
  unfold i14yda_0 at h
  unfold v14yda_0_t2' v14yda_0_t177
  generalize r14yda os hs t2 t3 t13 t134 t135 t136 t175 t176 m4_0 m4_1 m4_2 m4_3 t177 = r at h ⊢
  rcases r with _ | y
  · cases h
  · cases y <;> first | rfl | cases h
theorem is14yda_1 (os hs : List (List AV)) (t2 : Int) (t3 : List (List AV)) (t13 : Int) (t134 : List (List AV)) (t135 t136 : Int) (t175 : List (List AV)) (t176 m4_0 m4_1 m4_2 m4_3 t177 : Int) (h : i14yda_1 os hs t2 t3 t13 t134 t135 t136 t175 t176 m4_0 m4_1 m4_2 m4_3 t177 = true) : r14yda os hs t2 t3 t13 t134 t135 t136 t175 t176 m4_0 m4_1 m4_2 m4_3 t177 = some (.x1 (v14yda_1_t177 os hs t2 t3 t13 t134 t135 t136 t175 t176 m4_0 m4_1 m4_2 m4_3 t177)) := by
  unfold i14yda_1 at h
  unfold v14yda_1_t177
  generalize r14yda os hs t2 t3 t13 t134 t135 t136 t175 t176 m4_0 m4_1 m4_2 m4_3 t177 = r at h ⊢
  rcases r with _ | y
  · cases h
  · cases y <;> first | rfl | cases h
theorem round14yda (os hs : List (List AV)) (t2 : Int) (t3 : List (List AV)) (t13 : Int) (t134 : List (List AV)) (t135 t136 : Int) (t175 : List (List AV)) (t176 t177 m4_0 m4_1 m4_2 m4_3 : Int) : round Try.prog SY3 (ro 14) L14y lp14yda [false, true, false, true, true, false, false, true, true, false, false, true, false, true, true, true, true, true, true, true, true, true] [(1, none), (2, none), (3, none), (13, none), (14, none), (134, none), (135, none), (136, none), (175, none), (176, none), (177, none)] 5 (s14yda os hs t2 t3 t13 t134 t135 t136 t175 t176 t177 m4_0 m4_1 m4_2 m4_3) =
    cond (decide (t177 < t176)) (cond (inb t177 t175.length) (cond (g32y (fI (t175.getD t177.toNat []) 0) 0 400) (cond (!w32y_0 (fI (t175.getD t177.toNat []) 0) 0 400) (some (.ret, o14yda_0 os hs t2 t3 t13 t134 t135 t136 t175 t176 m4_0 m4_1 m4_2 m4_3 9 t177)) (cond (g32y (fI (t175.getD t177.toNat []) 1) 0 400) (cond (!w32y_0 (fI (t175.getD t177.toNat []) 1) 0 400) (some (.ret, o14yda_0 os hs t2 t3 t13 t134 t135 t136 t175 t176 m4_0 m4_1 m4_2 m4_3 9 t177)) (cond (g34y t3 (fI (t175.getD t177.toNat []) 0) (fI (t175.getD t177.toNat []) 1) 1) (cond (!w34y_0 t3 (fI (t175.getD t177.toNat []) 0) (fI (t175.getD t177.toNat []) 1) 1) (some (.ret, o14yda_0 os hs t2 t3 t13 t134 t135 t136 t175 t176 m4_0 m4_1 m4_2 m4_3 9 t177)) (some (.nrm, s14yda os hs t2 t3 t13 t134 t135 t136 t175 t176 (IntKind.i64.wrap (t177 + 1)) m4_0 m4_1 m4_2 m4_3))) (none))) (none))) (none)) (none)) (some (.ext 9, o14yda_1 os hs t2 t3 t13 t134 t135 t136 t175 t176 m4_0 m4_1 m4_2 m4_3 t177)) := by kernel_rfl
theorem rnd14yda (os hs : List (List AV)) (t2 : Int) (t3 : List (List AV)) (t13 : Int) (t134 : List (List AV)) (t135 t136 : Int) (t175 : List (List AV)) (t176 m4_0 m4_1 m4_2 m4_3 : Int) (x : S14yda) : round Try.prog SY3 (ro 14) L14y lp14yda [false, true, false, true, true, false, false, true, true, false, false, true, false, true, true, true, true, true, true, true, true, true] [(1, none), (2, none), (3, none), (13, none), (14, none), (134, none), (135, none), (136, none), (175, none), (176, none), (177, none)] 5 ((fun x => s14yda os hs t2 t3 t13 t134 t135 t136 t175 t176 x.t177 m4_0 m4_1 m4_2 m4_3) x) = toR (fun x => s14yda os hs t2 t3 t13 t134 t135 t136 t175 t176 x.t177 m4_0 m4_1 m4_2 m4_3) (ou14yda os hs t2 t3 t13 t134 t135 t136 t175 t176 m4_0 m4_1 m4_2 m4_3) (stp14yda os hs t2 t3 t13 t134 t135 t136 t175 t176 m4_0 m4_1 m4_2 m4_3 x.t177) := by
  refine (round14yda _ _ _ _ _ _ _ _ _ _ _ _ _ _ _ ).trans ?_
  unfold stp14yda
  simp only [toR_cond]
  rfl
theorem lok14yda {st : St} {outs : List (Bool × Ex × St)} {e : Ex} {s : St} (hl : l14yda st = some outs) (hch : Chosen outs e s) :
    ∃ keep nb, 0 ≤ nb ∧ LB Try.prog SY3 (ro 14) L14y lp14yda [false, true, false, true, true, false, false, true, true, false, false, true, false, true, true, true, true, true, true, true, true, true] keep nb st e s := by
  unfold l14yda at hl
  split at hl
  · rename_i os hs t2 t3 t13 t134 t135 t136 t175 t176 t177 m4_0 m4_1 m4_2 m4_3 hno
    cases hl
    have hno := normW_norm hno
    refine ⟨_, _, ?_, .enter hno ?_⟩
    · decide
    have main := fun y h => LB_run (x := (⟨t177⟩ : S14yda)) (y := y) (nb := 5) (fun y => by cases y <;> simp [ou14yda]) (rnd14yda os hs t2 t3 t13 t134 t135 t136 t175 t176 m4_0 m4_1 m4_2 m4_3) h
    obtain ⟨x, hx, hg, rfl, rfl⟩ := chosen_any hch
    simp only [List.mem_cons, List.not_mem_nil, or_false] at hx
    rcases hx with rfl | rfl
    · exact main _ (is14yda_0 os hs t2 t3 t13 t134 t135 t136 t175 t176 m4_0 m4_1 m4_2 m4_3 t177 hg)
    · exact main _ (is14yda_1 os hs t2 t3 t13 t134 t135 t136 t175 t176 m4_0 m4_1 m4_2 m4_3 t177 hg)
  · cases hl
theorem is14ydb_0 (os hs : List (List AV)) (t2 : Int) (t3 t134 : List (List AV)) (t135 t136 : Int) (t201 : List (List AV)) (t202 m4_0 m4_1 m4_2 m4_3 t203 : Int) (h : i14ydb_0 os hs t2 t3 t134 t135 t136 t201 t202 m4_0 m4_1 m4_2 m4_3 t203 = true) : r14ydb os hs t2 t3 t134 t135 t136 t201 t202 m4_0 m4_1 m4_2 m4_3 t203 = some (.x0 (v14ydb_0_t2' os hs t2 t3 t134 t135 t136 t201 t202 m4_0 m4_1 m4_2 m4_3 t203) (v14ydb_0_t203 os hs t2 t3 t134 t135 t136 t201 t202 m4_0 m4_1 m4_2 m4_3 t203)) := by
  unfold i14ydb_0 at h
  unfold v14ydb_0_t2' v14ydb_0_t203
  generalize r14ydb os hs t2 t3 t134 t135 t136 t201 t202 m4_0 m4_1 m4_2 m4_3 t203 = r at h ⊢
  rcases r with _ | y
  · cases h
  · cases y <;> first | rfl | cases h
theorem is14ydb_1 (os hs : List (List AV)) (t2 : Int) (t3 t134 : List (List AV)) (t135 t136 : Int) (t201 : List (List AV)) (t202 m4_0 m4_1 m4_2 m4_3 t203 : Int) (h : i14ydb_1 os hs t2 t3 t134 t135 t136 t201 t202 m4_0 m4_1 m4_2 m4_3 t203 = true) : r14ydb os hs t2 t3 t134 t135 t136 t201 t202 m4_0 m4_1 m4_2 m4_3 t203 = some (.x1 (v14ydb_1_t203 os hs t2 t3 t134 t135 t136 t201 t202 m4_0 m4_1 m4_2 m4_3 t203)) := by
  unfold i14ydb_1 at h
  unfold v14ydb_1_t203
  generalize r14ydb os hs t2 t3 t134 t135 t136 t201 t202 m4_0 m4_1 m4_2 m4_3 t203 = r at h ⊢
  rcases r with _ | y
  · cases h
  · cases y <;> first | rfl | cases h
theorem round14ydb (os hs : List (List AV)) (t2 : Int) (t3 t134 : List (List AV)) (t135 t136 : Int) (t201 : List (List AV)) (t202 t203 m4_0 m4_1 m4_2 m4_3 : Int) : round Try.prog SY3 (ro 14) L14y lp14ydb [false, true, true, true, true, false, false, true, true, false, false, true, false, true, true, true, true, true, true, true, true, true] [(1, none), (2, none), (3, none), (14, none), (134, none), (135, none), (136, none), (201, none), (202, none), (203, none)] 5 (s14ydb os hs t2 t3 t134 t135 t136 t201 t202 t203 m4_0 m4_1 m4_2 m4_3) =
    cond (decide (t203 < t202)) (cond (inb t203 t201.length) (cond (decide (bmax (fI (t201.getD t203.toNat []) 0) m4_0 ≤ bmin (fI (t201.getD t203.toNat []) 2) m4_2)) (cond (decide (bmax (fI (t201.getD t203.toNat []) 1) m4_1 ≤ bmin (fI (t201.getD t203.toNat []) 3) m4_3)) (some (.ret, o14ydb_0 os hs t2 t3 t134 t135 t136 t201 t202 m4_0 m4_1 m4_2 m4_3 10 t203)) (some (.nrm, s14ydb os hs t2 t3 t134 t135 t136 t201 t202 (IntKind.i64.wrap (t203 + 1)) m4_0 m4_1 m4_2 m4_3))) (some (.nrm, s14ydb os hs t2 t3 t134 t135 t136 t201 t202 (IntKind.i64.wrap (t203 + 1)) m4_0 m4_1 m4_2 m4_3))) (none)) (some (.ext 11, o14ydb_1 os hs t2 t3 t134 t135 t136 t201 t202 m4_0 m4_1 m4_2 m4_3 t203)) := by kernel_rfl
theorem rnd14ydb (os hs : List (List AV)) (t2 : Int) (t3 t134 : List (List AV)) (t135 t136 : Int) (t201 : List (List AV)) (t202 m4_0 m4_1 m4_2 m4_3 : Int) (x : S14ydb) : round Try.prog SY3 (ro 14) L14y lp14ydb [false, true, true, true, true, false, false, true, true, false, false, true, false, true, true, true, true, true, true, true, true, true] [(1, none), (2, none), (3, none), (14, none), (134, none), (135, none), (136, none), (201, none), (202, none), (203, none)] 5 ((fun x => s14ydb os hs t2 t3 t134 t135 t136 t201 t202 x.t203 m4_0 m4_1 m4_2 m4_3) x) = toR (fun x => s14ydb os hs t2 t3 t134 t135 t136 t201 t202 x.t203 m4_0 m4_1 m4_2 m4_3) (ou14ydb os hs t2 t3 t134 t135 t136 t201 t202 m4_0 m4_1 m4_2 m4_3) (stp14ydb os hs t2 t3 t134 t135 t136 t201 t202 m4_0 m4_1 m4_2 m4_3 x.t203) := by
  refine (round14ydb _ _ _ _ _ _ _ _ _ _ _ _ _ _ ).trans ?_
  unfold stp14ydb
  simp only [toR_cond]
  rfl
theorem lok14ydb {st : St} {outs : List (Bool × Ex × St)} {e : Ex} {s : St} (hl : l14ydb st = some outs) (hch : Chosen outs e s) :
    ∃ keep nb, 0 ≤ nb ∧ LB Try.prog SY3 (ro 14) L14y lp14ydb [false, true, true, true, true, false, false, true, true, false, false, true, false, true, true, true, true, true, true, true, true, true] keep nb st e s := by
  unfold l14ydb at hl
  split at hl
  · rename_i os hs t2 t3 t134 t135 t136 t201 t202 t203 m4_0 m4_1 m4_2 m4_3 hno
    cases hl
    have hno := normW_norm hno
    refine ⟨_, _, ?_, .enter hno ?_⟩
    · decide
    have main := fun y h => LB_run (x := (⟨t203⟩ : S14ydb)) (y := y) (nb := 5) (fun y => by cases y <;> simp [ou14ydb]) (rnd14ydb os hs t2 t3 t134 t135 t136 t201 t202 m4_0 m4_1 m4_2 m4_3) h
    obtain ⟨x, hx, hg, rfl, rfl⟩ := chosen_any hch
    simp only [List.mem_cons, List.not_mem_nil, or_false] at hx
    rcases hx with rfl | rfl
    · exact main _ (is14ydb_0 os hs t2 t3 t134 t135 t136 t201 t202 m4_0 m4_1 m4_2 m4_3 t203 hg)
    · exact main _ (is14ydb_1 os hs t2 t3 t134 t135 t136 t201 t202 m4_0 m4_1 m4_2 m4_3 t203 hg)
  · cases hl
theorem is14yd_0 (os hs : List (List AV)) (t2 : Int) (t3 t134 : List (List AV)) (t135 t136 : Int) (h : i14yd_0 os hs t2 t3 t134 t135 t136 = true) : r14yd os hs t2 t3 t134 t135 t136 = some (.x0 (v14yd_0_t2' os hs t2 t3 t134 t135 t136) (v14yd_0_t136 os hs t2 t3 t134 t135 t136)) := by
  unfold i14yd_0 at h
  unfold v14yd_0_t2' v14yd_0_t136
  generalize r14yd os hs t2 t3 t134 t135 t136 = r at h ⊢
  rcases r with _ | y
  · cases h
  · cases y <;> first | rfl | cases h
theorem is14yd_1 (os hs : List (List AV)) (t2 : Int) (t3 t134 : List (List AV)) (t135 t136 : Int) (h : i14yd_1 os hs t2 t3 t134 t135 t136 = true) : r14yd os hs t2 t3 t134 t135 t136 = some (.x1 (v14yd_1_t136 os hs t2 t3 t134 t135 t136)) := by
  unfold i14yd_1 at h
  unfold v14yd_1_t136
  generalize r14yd os hs t2 t3 t134 t135 t136 = r at h ⊢
  rcases r with _ | y
  · cases h
  · cases y <;> first | rfl | cases h
theorem round14yd (os hs : List (List AV)) (t2 : Int) (t3 t134 : List (List AV)) (t135 t136 : Int) : round Try.prog SY3 (ro 14) L14y lp14yd [false, true, false, true, true, true, true, true, true, true, true, true] [(1, none), (2, none), (3, none), (134, none), (135, none), (136, none)] 0 (s14yd os hs t2 t3 t134 t135 t136) =
    cond (decide (t136 < t135)) (cond (inb t136 t134.length) (cond (decide (fI (t134.getD t136.toNat []) 0 ≥ fI (t134.getD t136.toNat []) 2)) (some (.ret, o14yd_0 os hs t2 t3 t134 t135 1 t136)) (cond (decide (fI (t134.getD t136.toNat []) 1 ≥ fI (t134.getD t136.toNat []) 3)) (some (.ret, o14yd_0 os hs t2 t3 t134 t135 1 t136)) (cond (i14yda_0 os hs t2 t3 t136 t134 t135 t136 [[AV.i IntKind.i64 (fI (t134.getD t136.toNat []) 0), AV.i IntKind.i64 (fI (t134.getD t136.toNat []) 1)], [AV.i IntKind.i64 (fI (t134.getD t136.toNat []) 2), AV.i IntKind.i64 (fI (t134.getD t136.toNat []) 3)], [AV.i IntKind.i64 (fI (t134.getD t136.toNat []) 0), AV.i IntKind.i64 (fI (t134.getD t136.toNat []) 3)], [AV.i IntKind.i64 (fI (t134.getD t136.toNat []) 2), AV.i IntKind.i64 (fI (t134.getD t136.toNat []) 1)]] (↑[[AV.i IntKind.i64 (fI (t134.getD t136.toNat []) 0), AV.i IntKind.i64 (fI (t134.getD t136.toNat []) 1)], [AV.i IntKind.i64 (fI (t134.getD t136.toNat []) 2), AV.i IntKind.i64 (fI (t134.getD t136.toNat []) 3)], [AV.i IntKind.i64 (fI (t134.getD t136.toNat []) 0), AV.i IntKind.i64 (fI (t134.getD t136.toNat []) 3)], [AV.i IntKind.i64 (fI (t134.getD t136.toNat []) 2), AV.i IntKind.i64 (fI (t134.getD t136.toNat []) 1)]].length : Int) (fI (t134.getD t136.toNat []) 0) (fI (t134.getD t136.toNat []) 1) (fI (t134.getD t136.toNat []) 2) (fI (t134.getD t136.toNat []) 3) 0) (some (.ret, o14yd_0 os hs t2 t3 t134 t135 (v14yda_0_t2' os hs t2 t3 t136 t134 t135 t136 [[AV.i IntKind.i64 (fI (t134.getD t136.toNat []) 0), AV.i IntKind.i64 (fI (t134.getD t136.toNat []) 1)], [AV.i IntKind.i64 (fI (t134.getD t136.toNat []) 2), AV.i IntKind.i64 (fI (t134.getD t136.toNat []) 3)], [AV.i IntKind.i64 (fI (t134.getD t136.toNat []) 0), AV.i IntKind.i64 (fI (t134.getD t136.toNat []) 3)], [AV.i IntKind.i64 (fI (t134.getD t136.toNat []) 2), AV.i IntKind.i64 (fI (t134.getD t136.toNat []) 1)]] (↑[[AV.i IntKind.i64 (fI (t134.getD t136.toNat []) 0), AV.i IntKind.i64 (fI (t134.getD t136.toNat []) 1)], [AV.i IntKind.i64 (fI (t134.getD t136.toNat []) 2), AV.i IntKind.i64 (fI (t134.getD t136.toNat []) 3)], [AV.i IntKind.i64 (fI (t134.getD t136.toNat []) 0), AV.i IntKind.i64 (fI (t134.getD t136.toNat []) 3)], [AV.i IntKind.i64 (fI (t134.getD t136.toNat []) 2), AV.i IntKind.i64 (fI (t134.getD t136.toNat []) 1)]].length : Int) (fI (t134.getD t136.toNat []) 0) (fI (t134.getD t136.toNat []) 1) (fI (t134.getD t136.toNat []) 2) (fI (t134.getD t136.toNat []) 3) 0) t136)) (cond (i14yda_1 os hs t2 t3 t136 t134 t135 t136 [[AV.i IntKind.i64 (fI (t134.getD t136.toNat []) 0), AV.i IntKind.i64 (fI (t134.getD t136.toNat []) 1)], [AV.i IntKind.i64 (fI (t134.getD t136.toNat []) 2), AV.i IntKind.i64 (fI (t134.getD t136.toNat []) 3)], [AV.i IntKind.i64 (fI (t134.getD t136.toNat []) 0), AV.i IntKind.i64 (fI (t134.getD t136.toNat []) 3)], [AV.i IntKind.i64 (fI (t134.getD t136.toNat []) 2), AV.i IntKind.i64 (fI (t134.getD t136.toNat []) 1)]] (↑[[AV.i IntKind.i64 (fI (t134.getD t136.toNat []) 0), AV.i IntKind.i64 (fI (t134.getD t136.toNat []) 1)], [AV.i IntKind.i64 (fI (t134.getD t136.toNat []) 2), AV.i IntKind.i64 (fI (t134.getD t136.toNat []) 3)], [AV.i IntKind.i64 (fI (t134.getD t136.toNat []) 0), AV.i IntKind.i64 (fI (t134.getD t136.toNat []) 3)], [AV.i IntKind.i64 (fI (t134.getD t136.toNat []) 2), AV.i IntKind.i64 (fI (t134.getD t136.toNat []) 1)]].length : Int) (fI (t134.getD t136.toNat []) 0) (fI (t134.getD t136.toNat []) 1) (fI (t134.getD t136.toNat []) 2) (fI (t134.getD t136.toNat []) 3) 0) (cond (decide (0 ≤ t136) && decide (t136 ≤ (↑hs.length : Int))) (cond (i14ydb_0 os hs t2 t3 t134 t135 t136 (List.drop 0 (List.take t136.toNat hs)) (↑(List.drop 0 (List.take t136.toNat hs)).length : Int) (fI (t134.getD t136.toNat []) 0) (fI (t134.getD t136.toNat []) 1) (fI (t134.getD t136.toNat []) 2) (fI (t134.getD t136.toNat []) 3) 0) (some (.ret, o14yd_0 os hs t2 t3 t134 t135 (v14ydb_0_t2' os hs t2 t3 t134 t135 t136 (List.drop 0 (List.take t136.toNat hs)) (↑(List.drop 0 (List.take t136.toNat hs)).length : Int) (fI (t134.getD t136.toNat []) 0) (fI (t134.getD t136.toNat []) 1) (fI (t134.getD t136.toNat []) 2) (fI (t134.getD t136.toNat []) 3) 0) t136)) (cond (i14ydb_1 os hs t2 t3 t134 t135 t136 (List.drop 0 (List.take t136.toNat hs)) (↑(List.drop 0 (List.take t136.toNat hs)).length : Int) (fI (t134.getD t136.toNat []) 0) (fI (t134.getD t136.toNat []) 1) (fI (t134.getD t136.toNat []) 2) (fI (t134.getD t136.toNat []) 3) 0) (some (.nrm, s14yd os hs t2 t3 t134 t135 (IntKind.i64.wrap (t136 + 1)))) (none))) (none)) (none))))) (none)) (some (.ext 7, o14yd_1 os hs t2 t3 t134 t135 t136)) := by kernel_rfl
theorem rnd14yd (os hs : List (List AV)) (t2 : Int) (t3 t134 : List (List AV)) (t135 : Int) (x : S14yd) : round Try.prog SY3 (ro 14) L14y lp14yd [false, true, false, true, true, true, true, true, true, true, true, true] [(1, none), (2, none), (3, none), (134, none), (135, none), (136, none)] 0 ((fun x => s14yd os hs t2 t3 t134 t135 x.t136) x) = toR (fun x => s14yd os hs t2 t3 t134 t135 x.t136) (ou14yd os hs t2 t3 t134 t135) (stp14yd os hs t2 t3 t134 t135 x.t136) := by
  refine (round14yd _ _ _ _ _ _ _ ).trans ?_
  unfold stp14yd
  simp only [toR_cond]
  rfl
theorem lok14yd {st : St} {outs : List (Bool × Ex × St)} {e : Ex} {s : St} (hl : l14yd st = some outs) (hch : Chosen outs e s) :
    ∃ keep nb, 0 ≤ nb ∧ LB Try.prog SY3 (ro 14) L14y lp14yd [false, true, false, true, true, true, true, true, true, true, true, true] keep nb st e s := by
  unfold l14yd at hl
  split at hl
  · rename_i os hs t2 t3 t134 t135 t136 hno
    cases hl
    have hno := normW_norm hno
    refine ⟨_, _, ?_, .enter hno ?_⟩
    · decide
    have main := fun y h => LB_run (x := (⟨t136⟩ : S14yd)) (y := y) (nb := 0) (fun y => by cases y <;> simp [ou14yd]) (rnd14yd os hs t2 t3 t134 t135) h
    obtain ⟨x, hx, hg, rfl, rfl⟩ := chosen_any hch
    simp only [List.mem_cons, List.not_mem_nil, or_false] at hx
    rcases hx with rfl | rfl
    · exact main _ (is14yd_0 os hs t2 t3 t134 t135 t136 hg)
    · exact main _ (is14yd_1 os hs t2 t3 t134 t135 t136 hg)
  · cases hl
theorem L14y_ok (q : Pl) (c : Code) (hq : locate c14y q.reverse = some (.loop c)) (st : St) (outs : List (Bool × Ex × St)) (e : Ex) (s : St) (hl : L14y q st = some outs) (hch : Chosen outs e s) :
    ∃ keep nb, 0 ≤ nb ∧ LB Try.prog SY3 (ro 14) L14y c q keep nb st e s := by
  unfold L14y at hl
  split at hl
  · have : locate c14y ([false, true, false, true, true, true] : Pl).reverse = some (.loop lp14ya) := by kernel_rfl
    rw [this] at hq
    cases hq
    exact lok14ya hl hch
  · have : locate c14y ([false, true, false, true, true, true, true] : Pl).reverse = some (.loop lp14yb) := by kernel_rfl
    rw [this] at hq
    cases hq
    exact lok14yb hl hch
  · have : locate c14y ([false, true, false, true, true, true, true, true, true] : Pl).reverse = some (.loop lp14yc) := by kernel_rfl
    rw [this] at hq
    cases hq
    exact lok14yc hl hch
  · have : locate c14y ([false, true, false, true, true, false, false, true, true, false, false, true, false, true, true, true, true, true, true, true, true, true] : Pl).reverse = some (.loop lp14yda) := by kernel_rfl
    rw [this] at hq
    cases hq
    exact lok14yda hl hch
  · have : locate c14y ([false, true, true, true, true, false, false, true, true, false, false, true, false, true, true, true, true, true, true, true, true, true] : Pl).reverse = some (.loop lp14ydb) := by kernel_rfl
    rw [this] at hq
    cases hq
    exact lok14ydb hl hch
  · have : locate c14y ([false, true, false, true, true, true, true, true, true, true, true, true] : Pl).reverse = some (.loop lp14yd) := by kernel_rfl
    rw [this] at hq
    cases hq
    exact lok14yd hl hch
  · cases hl
theorem lok14y : LOK Try.prog SY3 (ro 14) L14y 0 false c14y [] :=
  lok_lo L14y_ok c14y [] false (locate_nil _) (by kernel_rfl)
noncomputable def t14y (os hs : List (List AV)) : Tr ((Int)) :=
  .cn (decide ((↑os.length : Int) > 12)) (.lf (3)) (.cn (decide ((↑os.length : Int) < 3)) (.lf (1)) (.cn (i14ya_0 os hs 0 os os (↑os.length : Int) 0) (.lf (v14ya_0_t2' os hs 0 os os (↑os.length : Int) 0)) (.cn (i14ya_1 os hs 0 os os (↑os.length : Int) 0) (.cn (i14yb_0 os hs 0 os os (↑os.length : Int) 0) (.lf (v14yb_0_t2' os hs 0 os os (↑os.length : Int) 0)) (.cn (i14yb_1 os hs 0 os os (↑os.length : Int) 0) (.cn (i14yc_0 os hs 0 os os (↑os.length : Int) true 0) (.lf (v14yc_0_t2' os hs 0 os os (↑os.length : Int) true 0)) (.cn (i14yc_1 os hs 0 os os (↑os.length : Int) true 0) (.cn (v14yc_1_t8 os hs 0 os os (↑os.length : Int) true 0) (.lf (9)) (.cn (decide ((↑hs.length : Int) > 6)) (.lf (3)) (.cn (i14yd_0 os hs 0 os hs (↑hs.length : Int) 0) (.lf (v14yd_0_t2' os hs 0 os hs (↑hs.length : Int) 0)) (.cn (i14yd_1 os hs 0 os hs (↑hs.length : Int) 0) (.lf (0)) (.nn))))) (.nn))) (.nn))) (.nn))))
noncomputable def g14y (os hs : List (List AV)) : Bool := (t14y os hs).g
noncomputable def w14y_0 (os hs : List (List AV)) : Int := (t14y os hs).val
theorem eq14y (os hs : List (List AV)) : evF Try.prog SY3 (ro 14) L14y Try.f14 [.agg [.rs 42 os, .rs 106 hs]] = (t14y os hs).opt (fun (x : (Int)) => (.i .i64 x : AV)) := by kernel_rfl
theorem con14y (os hs : List (List AV)) (h : g14y os hs = true) : Con Try.prog 14 [.agg [.rs 42 os, .rs 106 hs]] [] (.i .i64 (w14y_0 os hs)) [] :=
  con_of SY3_ok mixed Try.func14 (c := c14y) rfl (names 14 _ Try.func14) lok14y ((eq14y os hs).trans (Tr.sound _ _ h))
noncomputable def e14y (args : List AV) (rows : List Blk) : Option (Bool × AV × List Blk) := match args, rows with
  | [.agg [.rs 42 os, .rs 106 hs]], [] => some (g14y os hs, .i .i64 (w14y_0 os hs), [])
  | _, _ => none
theorem e14y_ok (args : List AV) (rows : List Blk) (pre : Bool) (v : AV) (rows' : List Blk) (h : e14y args rows = some (pre, v, rows')) (hp : pre = true) : Con Try.prog 14 args rows v rows' := by
  unfold e14y at h
  split at h
  · cases h; exact con14y _ _ hp
  · cases h
-- SPEC 14
end Go.Proofs.Ytkdiaipaajgcbaa

set_option maxRecDepth 100000
set_option linter.unusedVariables false
set_option linter.unusedSimpArgs false
namespace Go.Proofs.Ytkdiaipaajgcbaa
open Go Go.Ev
theorem idx_ok {os : List (List AV)} {u v : Int} (h : os.length < 9223372036854775807) : g45y os u v = true := by
  have := run_cnt (step := fun x : S45ya => stp45ya os u v 0 (os.length : Int) x.t8) os.length (fun k x => x.t8 = (k : Int)) (fun _ => True) (fun k x hk hx => by
    obtain ⟨t⟩ := x
    subst hx
    unfold stp45ya
    dsimp only
    rw [lt_true hk, inb_true hk, wrap_succ (by omega)]
    simp only [cond_true, cond_false]
    exact LpOK.cond (fun _ => trivial) (fun _ => rfl)) (fun x hx => by
    obtain ⟨t⟩ := x
    subst hx
    unfold stp45ya
    dsimp only
    rw [lt_false]
    exact trivial) ⟨0⟩ rfl
  obtain ⟨y, h1, _⟩ := this
  have h1 : r45ya os u v 0 (os.length : Int) 0 = some y := h1
  unfold g45y t45y i45ya_0 i45ya_1
  rw [h1]
  cases y <;> rfl
theorem cont_ok {os : List (List AV)} {u v : Int} (h : os.length < 9223372036854775807) : g33y os u v = true := by
  unfold g33y t33y
  rw [idx_ok h]; rfl
theorem left_ok {os : List (List AV)} {u v n : Int} (h : okS os = true) : g34y os u v n = true := by
  obtain ⟨y, h1, _⟩ := iterR_ok (step := fun (x : S34ya) it => stp34ya u v n os false it) (fun _ => True) (fun _ => True) (fun x a _ => by
    unfold stp34ya
    exact LpOK.cond (fun _ => trivial) (fun _ => trivial)) (sidesX os) ⟨⟩ trivial
  have h1 : r34ya u v n os false os = some y := h1
  have e : w46y_0 os = os := rfl
  unfold g34y t34y
  rw [e, h]
  unfold i34ya_0 i34ya_1
  rw [h1]
  rcases y with y | y <;> cases y <;> rfl
theorem in_ok (a b c : Int) : g32y a b c = true := by
  unfold g32y t32y
  cases decide (b ≤ a) <;> rfl
theorem in_eq (a b c : Int) : w32y_0 a b c = (decide (b ≤ a) && decide (a ≤ c)) := by
  unfold w32y_0 t32y
  cases decide (b ≤ a) <;> rfl
theorem tmod_in {i n : Nat} (h : 0 < n) : inb (((i : Nat) : Int).tmod (n : Int)) n = true := by
  rw [← Int.ofNat_tmod]
  exact inb_true (Nat.mod_lt _ h)
def Fine (os : List (List AV)) : Prop := ∀ j, j < os.length → (0 ≤ fI (os.getD j []) 0 ∧ fI (os.getD j []) 0 ≤ 400) ∧ (0 ≤ fI (os.getD j []) 1 ∧ fI (os.getD j []) 1 ≤ 400)
theorem a_ok {os hs : List (List AV)} (h : os.length < 9223372036854775807) : ∃ y, r14ya os hs 0 os os (os.length : Int) 0 = some y ∧ (match y with | .x0 a _ => a = 1 | .x1 _ => Fine os) := by
  refine run_cnt (step := fun x : S14ya => stp14ya os hs 0 os os (os.length : Int) x.t31) os.length (fun k x => x.t31 = (k : Int) ∧ ∀ j, j < k → (0 ≤ fI (os.getD j []) 0 ∧ fI (os.getD j []) 0 ≤ 400) ∧ (0 ≤ fI (os.getD j []) 1 ∧ fI (os.getD j []) 1 ≤ 400)) (fun (y : T14ya) => match y with | .x0 a _ => a = 1 | .x1 _ => Fine os) (fun k x hk hx => ?_) (fun x hx => ?_) ⟨0⟩ ⟨rfl, fun j hj => by omega⟩
  · obtain ⟨t⟩ := x
    obtain ⟨rfl, hx⟩ := hx
    unfold stp14ya
    dsimp only
    rw [lt_true hk, inb_true hk, wrap_succ (by omega), in_ok, in_ok, in_eq, in_eq, Int.toNat_natCast]
    simp only [cond_true, cond_false]
    refine LpOK.cond (fun _ => rfl) (fun h1 => LpOK.cond (fun _ => rfl) (fun h2 => ⟨rfl, fun j hj => ?_⟩))
    simp only [Bool.not_eq_false', Bool.and_eq_true, decide_eq_true_eq] at h1 h2
    rcases Nat.lt_succ_iff_lt_or_eq.1 hj with h' | rfl
    · exact hx j h'
    · exact ⟨h1, h2⟩
  · obtain ⟨t⟩ := x
    obtain ⟨rfl, hx⟩ := hx
    unfold stp14ya
    dsimp only
    rw [lt_false]
    exact hx
theorem b_ok {os hs : List (List AV)} (h : os.length < 9223372036854775807) : ∃ y, r14yb os hs 0 os os (os.length : Int) 0 = some y := by
  have := run_cnt (step := fun x : S14yb => stp14yb os hs 0 os os (os.length : Int) x.t48) os.length (fun k x => x.t48 = (k : Int)) (fun _ => True) (fun k x hk hx => by
    obtain ⟨t⟩ := x
    subst hx
    unfold stp14yb
    dsimp only
    rw [lt_true hk, inb_true hk, wrap_succ (by omega), decide_eq_true (show (0 : Int) ≤ (k : Int) by omega), decide_eq_true (show (k : Int) ≤ (os.length : Int) by omega), cont_ok (by simp; omega)]
    simp only [cond_true, cond_false, Bool.and_self]
    exact LpOK.cond (fun _ => trivial) (fun _ => rfl)) (fun x hx => by
    obtain ⟨t⟩ := x
    subst hx
    unfold stp14yb
    dsimp only
    rw [lt_false]
    exact trivial) ⟨0⟩ rfl
  obtain ⟨y, h1, _⟩ := this
  exact ⟨y, h1⟩
theorem c_ok {os hs : List (List AV)} (hS : okS os = true) (h : os.length < 9223372036854775800) : ∃ y, r14yc os hs 0 os os (os.length : Int) true 0 = some y := by
  have := run_cnt (step := fun x : S14yc => stp14yc os hs 0 os os (os.length : Int) x.t8 x.t61) os.length (fun k x => x.t61 = (k : Int)) (fun _ => True) (fun k x hk hx => by
    obtain ⟨b, t⟩ := x
    subst hx
    unfold stp14yc
    dsimp only
    have hz : decide ((os.length : Int) = 0) = false := decide_eq_false (by omega)
    have w1 : IntKind.i64.wrap ((k : Int) + 1) = ((k + 1 : Nat) : Int) := wrap_succ (by omega)
    have w2 : IntKind.i64.wrap ((k : Int) + 2) = ((k + 2 : Nat) : Int) := (wrap64 (by omega) (by omega)).trans (by omega)
    rw [lt_true hk, inb_true hk, w1, w2, hz, tmod_in (by omega), tmod_in (by omega), left_ok hS]
    simp only [cond_true, cond_false]
    refine LpOK.cond (fun _ => trivial) (fun _ => LpOK.cond (fun _ => LpOK.cond (fun _ => trivial) (fun _ => ?_)) (fun _ => ?_)) <;> exact LpOK.cond (fun _ => rfl) (fun _ => rfl)) (fun x hx => by
    obtain ⟨b, t⟩ := x
    subst hx
    unfold stp14yc
    dsimp only
    rw [lt_false]
    exact trivial) ⟨true, 0⟩ rfl
  obtain ⟨y, h1, _⟩ := this
  exact ⟨y, h1⟩
theorem da_ok {os hs l q : List (List AV)} {a b c d t n : Int} {m0 m1 m2 m3 : Int} (hS : okS os = true) (h : l.length < 9223372036854775807) : ∃ y, r14yda os hs a os b q c d l (l.length : Int) m0 m1 m2 m3 0 = some y := by
  have := run_cnt (step := fun x : S14yda => stp14yda os hs a os b q c d l (l.length : Int) m0 m1 m2 m3 x.t177) l.length (fun k x => x.t177 = (k : Int)) (fun _ => True) (fun k x hk hx => by
    obtain ⟨t⟩ := x
    subst hx
    unfold stp14yda
    dsimp only
    rw [lt_true hk, inb_true hk, wrap_succ (by omega), in_ok, in_ok, left_ok hS]
    simp only [cond_true, cond_false]
    exact LpOK.cond (fun _ => trivial) (fun _ => LpOK.cond (fun _ => trivial) (fun _ => LpOK.cond (fun _ => trivial) (fun _ => rfl)))) (fun x hx => by
    obtain ⟨t⟩ := x
    subst hx
    unfold stp14yda
    dsimp only
    rw [lt_false]
    exact trivial) ⟨0⟩ rfl
  obtain ⟨y, h1, _⟩ := this
  exact ⟨y, h1⟩
theorem db_ok {os hs l q : List (List AV)} {a c d : Int} {m0 m1 m2 m3 : Int} (h : l.length < 9223372036854775807) : ∃ y, r14ydb os hs a os q c d l (l.length : Int) m0 m1 m2 m3 0 = some y := by
  have := run_cnt (step := fun x : S14ydb => stp14ydb os hs a os q c d l (l.length : Int) m0 m1 m2 m3 x.t203) l.length (fun k x => x.t203 = (k : Int)) (fun _ => True) (fun k x hk hx => by
    obtain ⟨t⟩ := x
    subst hx
    unfold stp14ydb
    dsimp only
    rw [lt_true hk, inb_true hk, wrap_succ (by omega)]
    simp only [cond_true, cond_false]
    exact LpOK.cond (fun _ => LpOK.cond (fun _ => trivial) (fun _ => rfl)) (fun _ => rfl)) (fun x hx => by
    obtain ⟨t⟩ := x
    subst hx
    unfold stp14ydb
    dsimp only
    rw [lt_false]
    exact trivial) ⟨0⟩ rfl
  obtain ⟨y, h1, _⟩ := this
  exact ⟨y, h1⟩
theorem d_ok {os hs : List (List AV)} (hS : okS os = true) (h : hs.length < 9223372036854775807) : ∃ y, r14yd os hs 0 os hs (hs.length : Int) 0 = some y := by
  have := run_cnt (step := fun x : S14yd => stp14yd os hs 0 os hs (hs.length : Int) x.t136) hs.length (fun k x => x.t136 = (k : Int)) (fun _ => True) (fun k x hk hx => by
    obtain ⟨t⟩ := x
    subst hx
    unfold stp14yd
    dsimp only
    rw [lt_true hk, inb_true hk, wrap_succ (by omega), decide_eq_true (show (0 : Int) ≤ (k : Int) by omega), decide_eq_true (show (k : Int) ≤ (hs.length : Int) by omega)]
    simp only [cond_true, cond_false, Bool.and_self]
    refine LpOK.cond (fun _ => trivial) (fun _ => LpOK.cond (fun _ => trivial) (fun _ => ?_))
    unfold i14yda_0 i14yda_1 i14ydb_0 i14ydb_1
    generalize hl : [[AV.i IntKind.i64 (fI (hs.getD (k : Int).toNat []) 0), AV.i IntKind.i64 (fI (hs.getD (k : Int).toNat []) 1)], [AV.i IntKind.i64 (fI (hs.getD (k : Int).toNat []) 2), AV.i IntKind.i64 (fI (hs.getD (k : Int).toNat []) 3)], [AV.i IntKind.i64 (fI (hs.getD (k : Int).toNat []) 0), AV.i IntKind.i64 (fI (hs.getD (k : Int).toNat []) 3)], [AV.i IntKind.i64 (fI (hs.getD (k : Int).toNat []) 2), AV.i IntKind.i64 (fI (hs.getD (k : Int).toNat []) 1)]] = l
    have hll : l.length < 9223372036854775807 := by rw [← hl]; simp
    obtain ⟨y, hy⟩ := da_ok (os := os) (hs := hs) (l := l) (q := hs) (a := 0) (b := (k : Int)) (c := (hs.length : Int)) (d := (k : Int)) (t := 0) (n := 0) (m0 := fI (hs.getD (k : Int).toNat []) 0) (m1 := fI (hs.getD (k : Int).toNat []) 1) (m2 := fI (hs.getD (k : Int).toNat []) 2) (m3 := fI (hs.getD (k : Int).toNat []) 3) hS hll
    rw [hy]
    obtain ⟨z, hz⟩ := db_ok (os := os) (hs := hs) (l := List.drop 0 (List.take (k : Int).toNat hs)) (q := hs) (a := 0) (c := (hs.length : Int)) (d := (k : Int)) (m0 := fI (hs.getD (k : Int).toNat []) 0) (m1 := fI (hs.getD (k : Int).toNat []) 1) (m2 := fI (hs.getD (k : Int).toNat []) 2) (m3 := fI (hs.getD (k : Int).toNat []) 3) (by simp; omega)
    rw [hz]
    cases y <;> cases z <;> first | exact trivial | exact rfl) (fun x hx => by
    obtain ⟨t⟩ := x
    subst hx
    unfold stp14yd
    dsimp only
    rw [lt_false]
    exact trivial) ⟨0⟩ rfl
  obtain ⟨y, h1, _⟩ := this
  exact ⟨y, h1⟩
theorem area_ok {os hs : List (List AV)} (hS : okS os = true) (h1 : os.length ≤ 30) (h2 : hs.length ≤ 20) : g14y os hs = true ∧ (w14y_0 os hs = 0 → Fine os ∧ os.length ≤ 12 ∧ 3 ≤ os.length) := by
  obtain ⟨a, ha, ha'⟩ := a_ok (os := os) (hs := hs) (by omega)
  obtain ⟨b, hb⟩ := b_ok (os := os) (hs := hs) (by omega)
  obtain ⟨c, hc⟩ := c_ok (hs := hs) hS (by omega)
  obtain ⟨d, hd⟩ := d_ok (hs := hs) hS (by omega)
  unfold g14y w14y_0 t14y i14ya_0 i14ya_1 i14yb_0 i14yb_1 i14yc_0 i14yc_1 i14yd_0 i14yd_1 v14ya_0_t2'
  rw [ha, hb, hc, hd]
  by_cases k1 : (os.length : Int) > 12
  · rw [decide_eq_true k1]
    exact ⟨rfl, fun h => by cases h⟩
  · by_cases k2 : (os.length : Int) < 3
    · rw [decide_eq_false k1, decide_eq_true k2]
      exact ⟨rfl, fun h => by cases h⟩
    · rw [decide_eq_false k1, decide_eq_false k2]
      cases a with
      | x0 a t =>
        subst ha'
        exact ⟨rfl, fun h => by cases h⟩
      | x1 t =>
        refine ⟨?_, fun _ => ⟨ha', by omega, by omega⟩⟩
        cases b with
        | x0 => rfl
        | x1 =>
          cases c with
          | x0 => rfl
          | x1 c1 c2 =>
            simp only [cond_true, cond_false, Tr.g]
            cases v14yc_1_t8 os hs 0 os os (os.length : Int) true 0
            · cases decide ((hs.length : Int) > 6)
              · cases d <;> rfl
              · rfl
            · rfl
end Go.Proofs.Ytkdiaipaajgcbaa

set_option maxRecDepth 100000
set_option linter.unusedVariables false
namespace Go.Proofs.Ytkdiaipaajgcbaa
open Go Go.Ev
def ro6y (t : Nat) : Bool := cond (Nat.beq t 1000071) false (cond (Nat.beq t 1000037) false (ro 6 t))
noncomputable def SY4 : Ev.Spec := insS 14 e14y (SY3)
theorem SY4_ok : SpecOK Try.prog SY4 := insS_ok e14y_ok (SY3_ok)
end Go.Proofs.Ytkdiaipaajgcbaa

set_option maxRecDepth 100000
set_option maxHeartbeats 0
set_option linter.unusedVariables false
namespace Go.Proofs.Ytkdiaipaajgcbaa
open Go Go.Ev

noncomputable def c6y : Code := match Try.f6.body with | some c => c | _ => .skip
noncomputable def lp6ya : Code := loopAt c6y [true, true, true, true, true, true, true, true, true, true, true, true, true, false, true, false]
noncomputable def s6ya (kw kl kt kh t7 t10 t11 t12 t13 : Int) (os : List (List AV)) (t101 t102 m22_0 m22_1 m22_2 m22_3 m22_4 m22_5 m87_0 m87_1 : Int) : St :=
  { t := [(5, .rp [.int .i64, .int .i64, .int .i64, .int .i64] [.i .i64 kw, .i .i64 kl, .i .i64 kt, .i .i64 kh] 0), (6, .p 3 0 0), (7, .i .i64 t7), (9, .p 22 0 0), (10, .i .i64 t10), (11, .i .i64 t11), (12, .i .i64 t12), (13, .i .i64 t13), (14, .p 87 0 0), (100, .rs 42 os), (101, .i .i64 t101), (102, .i .i64 t102)], m := [(0, .dead), (1, .dead), (2, .dead), (3, .lrow 37 [[.nl]]), (4, .dead), (5, .dead), (6, .dead), (7, .dead), (8, .dead), (9, .dead), (10, .dead), (11, .dead), (12, .dead), (13, .dead), (14, .dead), (15, .dead), (16, .dead), (17, .dead), (18, .dead), (19, .dead), (20, .dead), (21, .dead), (22, .row 67 [[.i .i64 m22_0, .i .i64 m22_1, .i .i64 m22_2, .i .i64 m22_3, .i .i64 m22_4, .i .i64 m22_5]]), (23, .dead), (24, .dead), (25, .dead), (26, .dead), (27, .dead), (28, .dead), (29, .dead), (30, .dead), (31, .dead), (32, .dead), (33, .dead), (34, .dead), (35, .dead), (36, .dead), (37, .dead), (38, .dead), (39, .dead), (40, .dead), (41, .dead), (42, .dead), (43, .dead), (44, .dead), (45, .dead), (46, .dead), (47, .dead), (48, .dead), (49, .dead), (50, .dead), (51, .dead), (52, .dead), (53, .dead), (54, .dead), (55, .dead), (56, .dead), (57, .dead), (58, .dead), (59, .dead), (60, .dead), (61, .dead), (62, .dead), (63, .dead), (64, .dead), (65, .dead), (66, .dead), (67, .dead), (68, .dead), (69, .dead), (70, .dead), (71, .dead), (72, .dead), (73, .dead), (74, .dead), (75, .dead), (76, .dead), (77, .dead), (78, .dead), (79, .dead), (80, .dead), (81, .dead), (82, .dead), (83, .dead), (84, .dead), (85, .dead), (86, .dead), (87, .row 42 [[.i .i64 m87_0, .i .i64 m87_1]])], nx := 88, nt := 183 }
structure S6ya where
  t102 : Int
  m87_0 : Int
  m87_1 : Int
inductive T6ya where
  | x0 (t102 : Int) (m87_0 : Int) (m87_1 : Int)
noncomputable def stp6ya (kw kl kt kh t7 t10 t11 t12 t13 : Int) (os : List (List AV)) (t101 m22_0 m22_1 m22_2 m22_3 m22_4 m22_5 t102 m87_0 m87_1 : Int) : Lp S6ya T6ya :=
  cond (decide (t102 < t101)) (cond (inb t102 os.length) (.go ⟨IntKind.i64.wrap (t102 + 1), bmax m87_0 (fI (os.getD t102.toNat []) 0), bmax m87_1 (fI (os.getD t102.toNat []) 1)⟩) (.bad)) (.out (.x0 t102 m87_0 m87_1))
noncomputable def o6ya_0 (kw kl kt kh t7 t10 t11 t12 t13 : Int) (os : List (List AV)) (t101 m22_0 m22_1 m22_2 m22_3 m22_4 m22_5 t102 m87_0 m87_1 : Int) : St :=
  { t := [(5, .rp [.int .i64, .int .i64, .int .i64, .int .i64] [.i .i64 kw, .i .i64 kl, .i .i64 kt, .i .i64 kh] 0), (6, .p 3 0 0), (7, .i .i64 t7), (9, .p 22 0 0), (10, .i .i64 t10), (11, .i .i64 t11), (12, .i .i64 t12), (13, .i .i64 t13), (14, .p 87 0 0), (100, .rs 42 os), (101, .i .i64 t101), (102, .i .i64 t102)], m := [(0, .dead), (1, .dead), (2, .dead), (3, .lrow 37 [[.nl]]), (4, .dead), (5, .dead), (6, .dead), (7, .dead), (8, .dead), (9, .dead), (10, .dead), (11, .dead), (12, .dead), (13, .dead), (14, .dead), (15, .dead), (16, .dead), (17, .dead), (18, .dead), (19, .dead), (20, .dead), (21, .dead), (22, .row 67 [[.i .i64 m22_0, .i .i64 m22_1, .i .i64 m22_2, .i .i64 m22_3, .i .i64 m22_4, .i .i64 m22_5]]), (23, .dead), (24, .dead), (25, .dead), (26, .dead), (27, .dead), (28, .dead), (29, .dead), (30, .dead), (31, .dead), (32, .dead), (33, .dead), (34, .dead), (35, .dead), (36, .dead), (37, .dead), (38, .dead), (39, .dead), (40, .dead), (41, .dead), (42, .dead), (43, .dead), (44, .dead), (45, .dead), (46, .dead), (47, .dead), (48, .dead), (49, .dead), (50, .dead), (51, .dead), (52, .dead), (53, .dead), (54, .dead), (55, .dead), (56, .dead), (57, .dead), (58, .dead), (59, .dead), (60, .dead), (61, .dead), (62, .dead), (63, .dead), (64, .dead), (65, .dead), (66, .dead), (67, .dead), (68, .dead), (69, .dead), (70, .dead), (71, .dead), (72, .dead), (73, .dead), (74, .dead), (75, .dead), (76, .dead), (77, .dead), (78, .dead), (79, .dead), (80, .dead), (81, .dead), (82, .dead), (83, .dead), (84, .dead), (85, .dead), (86, .dead), (87, .row 42 [[.i .i64 m87_0, .i .i64 m87_1]])], nx := 88, nt := 183 }
noncomputable def ou6ya (kw kl kt kh t7 t10 t11 t12 t13 : Int) (os : List (List AV)) (t101 m22_0 m22_1 m22_2 m22_3 m22_4 m22_5 : Int) : T6ya → Ex × St
  | .x0 t102 m87_0 m87_1 => (.ext 0, o6ya_0 kw kl kt kh t7 t10 t11 t12 t13 os t101 m22_0 m22_1 m22_2 m22_3 m22_4 m22_5 t102 m87_0 m87_1)
noncomputable def r6ya (kw kl kt kh t7 t10 t11 t12 t13 : Int) (os : List (List AV)) (t101 m22_0 m22_1 m22_2 m22_3 m22_4 m22_5 t102 m87_0 m87_1 : Int) : Option T6ya := run (fun x => stp6ya kw kl kt kh t7 t10 t11 t12 t13 os t101 m22_0 m22_1 m22_2 m22_3 m22_4 m22_5 x.t102 x.m87_0 x.m87_1) (⟨t102, m87_0, m87_1⟩ : S6ya)
noncomputable def i6ya_0 (kw kl kt kh t7 t10 t11 t12 t13 : Int) (os : List (List AV)) (t101 m22_0 m22_1 m22_2 m22_3 m22_4 m22_5 t102 m87_0 m87_1 : Int) : Bool := match r6ya kw kl kt kh t7 t10 t11 t12 t13 os t101 m22_0 m22_1 m22_2 m22_3 m22_4 m22_5 t102 m87_0 m87_1 with
  | some (.x0 _ _ _) => true
  | _ => false
noncomputable def v6ya_0_t102 (kw kl kt kh t7 t10 t11 t12 t13 : Int) (os : List (List AV)) (t101 m22_0 m22_1 m22_2 m22_3 m22_4 m22_5 t102 m87_0 m87_1 : Int) : Int := match r6ya kw kl kt kh t7 t10 t11 t12 t13 os t101 m22_0 m22_1 m22_2 m22_3 m22_4 m22_5 t102 m87_0 m87_1 with
  | some (.x0 t102 _ _) => t102
  | _ => default
noncomputable def v6ya_0_m87_0 (kw kl kt kh t7 t10 t11 t12 t13 : Int) (os : List (List AV)) (t101 m22_0 m22_1 m22_2 m22_3 m22_4 m22_5 t102 m87_0 m87_1 : Int) : Int := match r6ya kw kl kt kh t7 t10 t11 t12 t13 os t101 m22_0 m22_1 m22_2 m22_3 m22_4 m22_5 t102 m87_0 m87_1 with
  | some (.x0 _ m87_0 _) => m87_0
  | _ => default
noncomputable def v6ya_0_m87_1 (kw kl kt kh t7 t10 t11 t12 t13 : Int) (os : List (List AV)) (t101 m22_0 m22_1 m22_2 m22_3 m22_4 m22_5 t102 m87_0 m87_1 : Int) : Int := match r6ya kw kl kt kh t7 t10 t11 t12 t13 os t101 m22_0 m22_1 m22_2 m22_3 m22_4 m22_5 t102 m87_0 m87_1 with
  | some (.x0 _ _ m87_1) => m87_1
  | _ => default
noncomputable def q6ya (kw kl kt kh t7 t10 t11 t12 t13 : Int) (os : List (List AV)) (t101 t102 m22_0 m22_1 m22_2 m22_3 m22_4 m22_5 m87_0 m87_1 : Int) : List (Bool × Ex × St) := [(i6ya_0 kw kl kt kh t7 t10 t11 t12 t13 os t101 m22_0 m22_1 m22_2 m22_3 m22_4 m22_5 t102 m87_0 m87_1, .ext 0, o6ya_0 kw kl kt kh t7 t10 t11 t12 t13 os t101 m22_0 m22_1 m22_2 m22_3 m22_4 m22_5 (v6ya_0_t102 kw kl kt kh t7 t10 t11 t12 t13 os t101 m22_0 m22_1 m22_2 m22_3 m22_4 m22_5 t102 m87_0 m87_1) (v6ya_0_m87_0 kw kl kt kh t7 t10 t11 t12 t13 os t101 m22_0 m22_1 m22_2 m22_3 m22_4 m22_5 t102 m87_0 m87_1) (v6ya_0_m87_1 kw kl kt kh t7 t10 t11 t12 t13 os t101 m22_0 m22_1 m22_2 m22_3 m22_4 m22_5 t102 m87_0 m87_1))]
noncomputable def l6ya (st : St) : Option (List (Bool × Ex × St)) := qget [.rp [.int .i64, .int .i64, .int .i64, .int .i64] [.i .i64, .i .i64, .i .i64, .i .i64] 0, .p 3 0 0, .i .i64, .p 22 0 0, .i .i64, .i .i64, .i .i64, .i .i64, .p 87 0 0, .rs 42, .i .i64, .i .i64] [(0, .dead), (1, .dead), (2, .dead), (3, .lrow 37 [.l [.nl]]), (4, .dead), (5, .dead), (6, .dead), (7, .dead), (8, .dead), (9, .dead), (10, .dead), (11, .dead), (12, .dead), (13, .dead), (14, .dead), (15, .dead), (16, .dead), (17, .dead), (18, .dead), (19, .dead), (20, .dead), (21, .dead), (22, .row 67 [.l [.i .i64, .i .i64, .i .i64, .i .i64, .i .i64, .i .i64]]), (23, .dead), (24, .dead), (25, .dead), (26, .dead), (27, .dead), (28, .dead), (29, .dead), (30, .dead), (31, .dead), (32, .dead), (33, .dead), (34, .dead), (35, .dead), (36, .dead), (37, .dead), (38, .dead), (39, .dead), (40, .dead), (41, .dead), (42, .dead), (43, .dead), (44, .dead), (45, .dead), (46, .dead), (47, .dead), (48, .dead), (49, .dead), (50, .dead), (51, .dead), (52, .dead), (53, .dead), (54, .dead), (55, .dead), (56, .dead), (57, .dead), (58, .dead), (59, .dead), (60, .dead), (61, .dead), (62, .dead), (63, .dead), (64, .dead), (65, .dead), (66, .dead), (67, .dead), (68, .dead), (69, .dead), (70, .dead), (71, .dead), (72, .dead), (73, .dead), (74, .dead), (75, .dead), (76, .dead), (77, .dead), (78, .dead), (79, .dead), (80, .dead), (81, .dead), (82, .dead), (83, .dead), (84, .dead), (85, .dead), (86, .dead), (87, .row 42 [.l [.i .i64, .i .i64]])] 88 183 (normW Try.prog [(5, none), (6, none), (7, none), (9, none), (10, none), (11, none), (12, none), (13, none), (14, none), (100, none), (101, none), (102, none)] 88 st) fun ls => q6ya (lI ls 0) (lI ls 1) (lI ls 2) (lI ls 3) (lI ls 4) (lI ls 5) (lI ls 6) (lI ls 7) (lI ls 8) (lLL ls 9) (lI ls 10) (lI ls 11) (lI ls 12) (lI ls 13) (lI ls 14) (lI ls 15) (lI ls 16) (lI ls 17) (lI ls 18) (lI ls 19)
noncomputable def lp6yb : Code := loopAt c6y [true, true, true, true, true, true, true, true, true, true, true, true, true, true, true, true, false, true, false]
noncomputable def s6yb (kw kl kt kh t7 t10 t11 t12 t18 t19 m22_0 m22_1 m22_2 m22_3 m22_4 m22_5 m87_0 m87_1 : Int) (m88 : List (List AV)) : St :=
  { t := [(5, .rp [.int .i64, .int .i64, .int .i64, .int .i64] [.i .i64 kw, .i .i64 kl, .i .i64 kt, .i .i64 kh] 0), (6, .p 3 0 0), (7, .i .i64 t7), (9, .p 22 0 0), (10, .i .i64 t10), (11, .i .i64 t11), (12, .i .i64 t12), (14, .p 87 0 0), (17, .p 88 0 0), (18, .i .i64 t18), (19, .i .i64 t19), (1008800, .u)], m := [(89, .fr 71), (0, .dead), (1, .dead), (2, .dead), (3, .lrow 37 [[.nl]]), (4, .dead), (5, .dead), (6, .dead), (7, .dead), (8, .dead), (9, .dead), (10, .dead), (11, .dead), (12, .dead), (13, .dead), (14, .dead), (15, .dead), (16, .dead), (17, .dead), (18, .dead), (19, .dead), (20, .dead), (21, .dead), (22, .row 67 [[.i .i64 m22_0, .i .i64 m22_1, .i .i64 m22_2, .i .i64 m22_3, .i .i64 m22_4, .i .i64 m22_5]]), (23, .dead), (24, .dead), (25, .dead), (26, .dead), (27, .dead), (28, .dead), (29, .dead), (30, .dead), (31, .dead), (32, .dead), (33, .dead), (34, .dead), (35, .dead), (36, .dead), (37, .dead), (38, .dead), (39, .dead), (40, .dead), (41, .dead), (42, .dead), (43, .dead), (44, .dead), (45, .dead), (46, .dead), (47, .dead), (48, .dead), (49, .dead), (50, .dead), (51, .dead), (52, .dead), (53, .dead), (54, .dead), (55, .dead), (56, .dead), (57, .dead), (58, .dead), (59, .dead), (60, .dead), (61, .dead), (62, .dead), (63, .dead), (64, .dead), (65, .dead), (66, .dead), (67, .dead), (68, .dead), (69, .dead), (70, .dead), (71, .dead), (72, .dead), (73, .dead), (74, .dead), (75, .dead), (76, .dead), (77, .dead), (78, .dead), (79, .dead), (80, .dead), (81, .dead), (82, .dead), (83, .dead), (84, .dead), (85, .dead), (86, .dead), (87, .row 42 [[.i .i64 m87_0, .i .i64 m87_1]]), (88, .lrow 37 [[.gv 89 71 m88]])], nx := 90, nt := 183 }
noncomputable def lp6yba : Code := loopAt c6y [true, true, true, true, true, true, true, true, true, true, true, true, true, true, true, true, false, true, false, false, true, false, false, true, true, true, false, false]
noncomputable def s6yba (kw kl kt kh t7 t10 t11 t12 t18 t19 m22_0 m22_1 m22_2 m22_3 m22_4 m22_5 m87_0 m87_1 : Int) (m88 : List (List AV)) (m96_0 : Int) (m96_1 : List (List AV)) : St :=
  { t := [(5, .rp [.int .i64, .int .i64, .int .i64, .int .i64] [.i .i64 kw, .i .i64 kl, .i .i64 kt, .i .i64 kh] 0), (6, .p 3 0 0), (7, .i .i64 t7), (9, .p 22 0 0), (10, .i .i64 t10), (11, .i .i64 t11), (12, .i .i64 t12), (14, .p 87 0 0), (17, .p 88 0 0), (18, .i .i64 t18), (19, .i .i64 t19), (20, .p 96 0 0), (1009601, .u), (1008800, .u)], m := [(97, .fr 67), (98, .fr 71), (0, .dead), (1, .dead), (2, .dead), (3, .lrow 37 [[.nl]]), (4, .dead), (5, .dead), (6, .dead), (7, .dead), (8, .dead), (9, .dead), (10, .dead), (11, .dead), (12, .dead), (13, .dead), (14, .dead), (15, .dead), (16, .dead), (17, .dead), (18, .dead), (19, .dead), (20, .dead), (21, .dead), (22, .row 67 [[.i .i64 m22_0, .i .i64 m22_1, .i .i64 m22_2, .i .i64 m22_3, .i .i64 m22_4, .i .i64 m22_5]]), (23, .dead), (24, .dead), (25, .dead), (26, .dead), (27, .dead), (28, .dead), (29, .dead), (30, .dead), (31, .dead), (32, .dead), (33, .dead), (34, .dead), (35, .dead), (36, .dead), (37, .dead), (38, .dead), (39, .dead), (40, .dead), (41, .dead), (42, .dead), (43, .dead), (44, .dead), (45, .dead), (46, .dead), (47, .dead), (48, .dead), (49, .dead), (50, .dead), (51, .dead), (52, .dead), (53, .dead), (54, .dead), (55, .dead), (56, .dead), (57, .dead), (58, .dead), (59, .dead), (60, .dead), (61, .dead), (62, .dead), (63, .dead), (64, .dead), (65, .dead), (66, .dead), (67, .dead), (68, .dead), (69, .dead), (70, .dead), (71, .dead), (72, .dead), (73, .dead), (74, .dead), (75, .dead), (76, .dead), (77, .dead), (78, .dead), (79, .dead), (80, .dead), (81, .dead), (82, .dead), (83, .dead), (84, .dead), (85, .dead), (86, .dead), (87, .row 42 [[.i .i64 m87_0, .i .i64 m87_1]]), (88, .lrow 37 [[.gv 98 71 m88]]), (89, .dead), (90, .dead), (91, .dead), (92, .dead), (93, .dead), (94, .dead), (95, .dead), (96, .lrow 71 [[.i .i64 m96_0, .gv 97 67 m96_1]])], nx := 99, nt := 183 }
structure S6yba where
  t18 : Int
  m22_0 : Int
  m96_1 : List (List AV)
inductive T6yba where
  | x0 (t7' : Int) (t18 : Int) (m22_0 : Int) (m96_1 : List (List AV))
  | x1 (t18 : Int) (m22_0 : Int) (m96_1 : List (List AV))
noncomputable def stp6yba (kw kl kt kh t7 t10 t11 t12 t19 m22_1 m22_2 m22_3 m22_4 m22_5 m87_0 m87_1 : Int) (m88 : List (List AV)) (m96_0 t18 m22_0 : Int) (m96_1 : List (List AV)) : Lp S6yba T6yba :=
  cond ((m96_1.length + [[AV.i IntKind.i64 m22_0, AV.i IntKind.i64 m22_1, AV.i IntKind.i64 m22_2, AV.i IntKind.i64 m22_3, AV.i IntKind.i64 m22_4, AV.i IntKind.i64 m22_5]].length).ble 9223372036854775807 && true) (cond (((m96_1.length + [[AV.i IntKind.i64 m22_0, AV.i IntKind.i64 m22_1, AV.i IntKind.i64 m22_2, AV.i IntKind.i64 m22_3, AV.i IntKind.i64 m22_4, AV.i IntKind.i64 m22_5]].length) * 48).ble 140737488355328) (cond (decide (IntKind.i64.wrap (t18 + 1) > 96)) (.out (.x0 3 (IntKind.i64.wrap (t18 + 1)) m22_0 (m96_1 ++ [[AV.i IntKind.i64 m22_0, AV.i IntKind.i64 m22_1, AV.i IntKind.i64 m22_2, AV.i IntKind.i64 m22_3, AV.i IntKind.i64 m22_4, AV.i IntKind.i64 m22_5]]))) (cond (decide (IntKind.i64.wrap (IntKind.i64.wrap (m22_0 + kw) - kt) ≥ m87_0)) (.out (.x1 (IntKind.i64.wrap (t18 + 1)) m22_0 (m96_1 ++ [[AV.i IntKind.i64 m22_0, AV.i IntKind.i64 m22_1, AV.i IntKind.i64 m22_2, AV.i IntKind.i64 m22_3, AV.i IntKind.i64 m22_4, AV.i IntKind.i64 m22_5]]))) (.go ⟨IntKind.i64.wrap (t18 + 1), IntKind.i64.wrap (m22_0 + t11), m96_1 ++ [[AV.i IntKind.i64 m22_0, AV.i IntKind.i64 m22_1, AV.i IntKind.i64 m22_2, AV.i IntKind.i64 m22_3, AV.i IntKind.i64 m22_4, AV.i IntKind.i64 m22_5]]⟩))) (.bad)) (.bad)
noncomputable def o6yba_0 (kw kl kt kh t7 t10 t11 t12 t19 m22_1 m22_2 m22_3 m22_4 m22_5 m87_0 m87_1 : Int) (m88 : List (List AV)) (m96_0 t7' t18 m22_0 : Int) (m96_1 : List (List AV)) : St :=
  { t := [(5, .rp [.int .i64, .int .i64, .int .i64, .int .i64] [.i .i64 kw, .i .i64 kl, .i .i64 kt, .i .i64 kh] 0), (6, .p 3 0 0), (7, .i .i64 t7'), (9, .p 22 0 0), (10, .i .i64 t10), (11, .i .i64 t11), (12, .i .i64 t12), (14, .p 87 0 0), (17, .p 88 0 0), (18, .i .i64 t18), (19, .i .i64 t19), (20, .p 96 0 0), (1009601, .u), (1008800, .u)], m := [(97, .fr 67), (98, .fr 71), (0, .dead), (1, .dead), (2, .dead), (3, .lrow 37 [[.nl]]), (4, .dead), (5, .dead), (6, .dead), (7, .dead), (8, .dead), (9, .dead), (10, .dead), (11, .dead), (12, .dead), (13, .dead), (14, .dead), (15, .dead), (16, .dead), (17, .dead), (18, .dead), (19, .dead), (20, .dead), (21, .dead), (22, .row 67 [[.i .i64 m22_0, .i .i64 m22_1, .i .i64 m22_2, .i .i64 m22_3, .i .i64 m22_4, .i .i64 m22_5]]), (23, .dead), (24, .dead), (25, .dead), (26, .dead), (27, .dead), (28, .dead), (29, .dead), (30, .dead), (31, .dead), (32, .dead), (33, .dead), (34, .dead), (35, .dead), (36, .dead), (37, .dead), (38, .dead), (39, .dead), (40, .dead), (41, .dead), (42, .dead), (43, .dead), (44, .dead), (45, .dead), (46, .dead), (47, .dead), (48, .dead), (49, .dead), (50, .dead), (51, .dead), (52, .dead), (53, .dead), (54, .dead), (55, .dead), (56, .dead), (57, .dead), (58, .dead), (59, .dead), (60, .dead), (61, .dead), (62, .dead), (63, .dead), (64, .dead), (65, .dead), (66, .dead), (67, .dead), (68, .dead), (69, .dead), (70, .dead), (71, .dead), (72, .dead), (73, .dead), (74, .dead), (75, .dead), (76, .dead), (77, .dead), (78, .dead), (79, .dead), (80, .dead), (81, .dead), (82, .dead), (83, .dead), (84, .dead), (85, .dead), (86, .dead), (87, .row 42 [[.i .i64 m87_0, .i .i64 m87_1]]), (88, .lrow 37 [[.gv 98 71 m88]]), (89, .dead), (90, .dead), (91, .dead), (92, .dead), (93, .dead), (94, .dead), (95, .dead), (96, .lrow 71 [[.i .i64 m96_0, .gv 97 67 m96_1]])], nx := 99, nt := 183 }
noncomputable def o6yba_1 (kw kl kt kh t7 t10 t11 t12 t19 m22_1 m22_2 m22_3 m22_4 m22_5 m87_0 m87_1 : Int) (m88 : List (List AV)) (m96_0 t18 m22_0 : Int) (m96_1 : List (List AV)) : St :=
  { t := [(5, .rp [.int .i64, .int .i64, .int .i64, .int .i64] [.i .i64 kw, .i .i64 kl, .i .i64 kt, .i .i64 kh] 0), (6, .p 3 0 0), (7, .i .i64 t7), (9, .p 22 0 0), (10, .i .i64 t10), (11, .i .i64 t11), (12, .i .i64 t12), (14, .p 87 0 0), (17, .p 88 0 0), (18, .i .i64 t18), (19, .i .i64 t19), (20, .p 96 0 0), (1009601, .u), (1008800, .u)], m := [(97, .fr 67), (98, .fr 71), (0, .dead), (1, .dead), (2, .dead), (3, .lrow 37 [[.nl]]), (4, .dead), (5, .dead), (6, .dead), (7, .dead), (8, .dead), (9, .dead), (10, .dead), (11, .dead), (12, .dead), (13, .dead), (14, .dead), (15, .dead), (16, .dead), (17, .dead), (18, .dead), (19, .dead), (20, .dead), (21, .dead), (22, .row 67 [[.i .i64 m22_0, .i .i64 m22_1, .i .i64 m22_2, .i .i64 m22_3, .i .i64 m22_4, .i .i64 m22_5]]), (23, .dead), (24, .dead), (25, .dead), (26, .dead), (27, .dead), (28, .dead), (29, .dead), (30, .dead), (31, .dead), (32, .dead), (33, .dead), (34, .dead), (35, .dead), (36, .dead), (37, .dead), (38, .dead), (39, .dead), (40, .dead), (41, .dead), (42, .dead), (43, .dead), (44, .dead), (45, .dead), (46, .dead), (47, .dead), (48, .dead), (49, .dead), (50, .dead), (51, .dead), (52, .dead), (53, .dead), (54, .dead), (55, .dead), (56, .dead), (57, .dead), (58, .dead), (59, .dead), (60, .dead), (61, .dead), (62, .dead), (63, .dead), (64, .dead), (65, .dead), (66, .dead), (67, .dead), (68, .dead), (69, .dead), (70, .dead), (71, .dead), (72, .dead), (73, .dead), (74, .dead), (75, .dead), (76, .dead), (77, .dead), (78, .dead), (79, .dead), (80, .dead), (81, .dead), (82, .dead), (83, .dead), (84, .dead), (85, .dead), (86, .dead), (87, .row 42 [[.i .i64 m87_0, .i .i64 m87_1]]), (88, .lrow 37 [[.gv 98 71 m88]]), (89, .dead), (90, .dead), (91, .dead), (92, .dead), (93, .dead), (94, .dead), (95, .dead), (96, .lrow 71 [[.i .i64 m96_0, .gv 97 67 m96_1]])], nx := 99, nt := 183 }
noncomputable def ou6yba (kw kl kt kh t7 t10 t11 t12 t19 m22_1 m22_2 m22_3 m22_4 m22_5 m87_0 m87_1 : Int) (m88 : List (List AV)) (m96_0 : Int) : T6yba → Ex × St
  | .x0 t7' t18 m22_0 m96_1 => (.ret, o6yba_0 kw kl kt kh t7 t10 t11 t12 t19 m22_1 m22_2 m22_3 m22_4 m22_5 m87_0 m87_1 m88 m96_0 t7' t18 m22_0 m96_1)
  | .x1 t18 m22_0 m96_1 => (.ext 4, o6yba_1 kw kl kt kh t7 t10 t11 t12 t19 m22_1 m22_2 m22_3 m22_4 m22_5 m87_0 m87_1 m88 m96_0 t18 m22_0 m96_1)
noncomputable def r6yba (kw kl kt kh t7 t10 t11 t12 t19 m22_1 m22_2 m22_3 m22_4 m22_5 m87_0 m87_1 : Int) (m88 : List (List AV)) (m96_0 t18 m22_0 : Int) (m96_1 : List (List AV)) : Option T6yba := run (fun x => stp6yba kw kl kt kh t7 t10 t11 t12 t19 m22_1 m22_2 m22_3 m22_4 m22_5 m87_0 m87_1 m88 m96_0 x.t18 x.m22_0 x.m96_1) (⟨t18, m22_0, m96_1⟩ : S6yba)
noncomputable def i6yba_0 (kw kl kt kh t7 t10 t11 t12 t19 m22_1 m22_2 m22_3 m22_4 m22_5 m87_0 m87_1 : Int) (m88 : List (List AV)) (m96_0 t18 m22_0 : Int) (m96_1 : List (List AV)) : Bool := match r6yba kw kl kt kh t7 t10 t11 t12 t19 m22_1 m22_2 m22_3 m22_4 m22_5 m87_0 m87_1 m88 m96_0 t18 m22_0 m96_1 with
  | some (.x0 _ _ _ _) => true
  | _ => false
noncomputable def v6yba_0_t7' (kw kl kt kh t7 t10 t11 t12 t19 m22_1 m22_2 m22_3 m22_4 m22_5 m87_0 m87_1 : Int) (m88 : List (List AV)) (m96_0 t18 m22_0 : Int) (m96_1 : List (List AV)) : Int := match r6yba kw kl kt kh t7 t10 t11 t12 t19 m22_1 m22_2 m22_3 m22_4 m22_5 m87_0 m87_1 m88 m96_0 t18 m22_0 m96_1 with
  | some (.x0 t7' _ _ _) => t7'
  | _ => default
noncomputable def v6yba_0_t18 (kw kl kt kh t7 t10 t11 t12 t19 m22_1 m22_2 m22_3 m22_4 m22_5 m87_0 m87_1 : Int) (m88 : List (List AV)) (m96_0 t18 m22_0 : Int) (m96_1 : List (List AV)) : Int := match r6yba kw kl kt kh t7 t10 t11 t12 t19 m22_1 m22_2 m22_3 m22_4 m22_5 m87_0 m87_1 m88 m96_0 t18 m22_0 m96_1 with
  | some (.x0 _ t18 _ _) => t18
  | _ => default
noncomputable def v6yba_0_m22_0 (kw kl kt kh t7 t10 t11 t12 t19 m22_1 m22_2 m22_3 m22_4 m22_5 m87_0 m87_1 : Int) (m88 : List (List AV)) (m96_0 t18 m22_0 : Int) (m96_1 : List (List AV)) : Int := match r6yba kw kl kt kh t7 t10 t11 t12 t19 m22_1 m22_2 m22_3 m22_4 m22_5 m87_0 m87_1 m88 m96_0 t18 m22_0 m96_1 with
  | some (.x0 _ _ m22_0 _) => m22_0
  | _ => default
noncomputable def v6yba_0_m96_1 (kw kl kt kh t7 t10 t11 t12 t19 m22_1 m22_2 m22_3 m22_4 m22_5 m87_0 m87_1 : Int) (m88 : List (List AV)) (m96_0 t18 m22_0 : Int) (m96_1 : List (List AV)) : List (List AV) := match r6yba kw kl kt kh t7 t10 t11 t12 t19 m22_1 m22_2 m22_3 m22_4 m22_5 m87_0 m87_1 m88 m96_0 t18 m22_0 m96_1 with
  | some (.x0 _ _ _ m96_1) => m96_1
  | _ => default
noncomputable def i6yba_1 (kw kl kt kh t7 t10 t11 t12 t19 m22_1 m22_2 m22_3 m22_4 m22_5 m87_0 m87_1 : Int) (m88 : List (List AV)) (m96_0 t18 m22_0 : Int) (m96_1 : List (List AV)) : Bool := match r6yba kw kl kt kh t7 t10 t11 t12 t19 m22_1 m22_2 m22_3 m22_4 m22_5 m87_0 m87_1 m88 m96_0 t18 m22_0 m96_1 with
  | some (.x1 _ _ _) => true
  | _ => false
noncomputable def v6yba_1_t18 (kw kl kt kh t7 t10 t11 t12 t19 m22_1 m22_2 m22_3 m22_4 m22_5 m87_0 m87_1 : Int) (m88 : List (List AV)) (m96_0 t18 m22_0 : Int) (m96_1 : List (List AV)) : Int := match r6yba kw kl kt kh t7 t10 t11 t12 t19 m22_1 m22_2 m22_3 m22_4 m22_5 m87_0 m87_1 m88 m96_0 t18 m22_0 m96_1 with
  | some (.x1 t18 _ _) => t18
  | _ => default
noncomputable def v6yba_1_m22_0 (kw kl kt kh t7 t10 t11 t12 t19 m22_1 m22_2 m22_3 m22_4 m22_5 m87_0 m87_1 : Int) (m88 : List (List AV)) (m96_0 t18 m22_0 : Int) (m96_1 : List (List AV)) : Int := match r6yba kw kl kt kh t7 t10 t11 t12 t19 m22_1 m22_2 m22_3 m22_4 m22_5 m87_0 m87_1 m88 m96_0 t18 m22_0 m96_1 with
  | some (.x1 _ m22_0 _) => m22_0
  | _ => default
noncomputable def v6yba_1_m96_1 (kw kl kt kh t7 t10 t11 t12 t19 m22_1 m22_2 m22_3 m22_4 m22_5 m87_0 m87_1 : Int) (m88 : List (List AV)) (m96_0 t18 m22_0 : Int) (m96_1 : List (List AV)) : List (List AV) := match r6yba kw kl kt kh t7 t10 t11 t12 t19 m22_1 m22_2 m22_3 m22_4 m22_5 m87_0 m87_1 m88 m96_0 t18 m22_0 m96_1 with
  | some (.x1 _ _ m96_1) => m96_1
  | _ => default
noncomputable def q6yba (kw kl kt kh t7 t10 t11 t12 t18 t19 m22_0 m22_1 m22_2 m22_3 m22_4 m22_5 m87_0 m87_1 : Int) (m88 : List (List AV)) (m96_0 : Int) (m96_1 : List (List AV)) : List (Bool × Ex × St) := [(i6yba_0 kw kl kt kh t7 t10 t11 t12 t19 m22_1 m22_2 m22_3 m22_4 m22_5 m87_0 m87_1 m88 m96_0 t18 m22_0 m96_1, .ret, o6yba_0 kw kl kt kh t7 t10 t11 t12 t19 m22_1 m22_2 m22_3 m22_4 m22_5 m87_0 m87_1 m88 m96_0 (v6yba_0_t7' kw kl kt kh t7 t10 t11 t12 t19 m22_1 m22_2 m22_3 m22_4 m22_5 m87_0 m87_1 m88 m96_0 t18 m22_0 m96_1) (v6yba_0_t18 kw kl kt kh t7 t10 t11 t12 t19 m22_1 m22_2 m22_3 m22_4 m22_5 m87_0 m87_1 m88 m96_0 t18 m22_0 m96_1) (v6yba_0_m22_0 kw kl kt kh t7 t10 t11 t12 t19 m22_1 m22_2 m22_3 m22_4 m22_5 m87_0 m87_1 m88 m96_0 t18 m22_0 m96_1) (v6yba_0_m96_1 kw kl kt kh t7 t10 t11 t12 t19 m22_1 m22_2 m22_3 m22_4 m22_5 m87_0 m87_1 m88 m96_0 t18 m22_0 m96_1)), (i6yba_1 kw kl kt kh t7 t10 t11 t12 t19 m22_1 m22_2 m22_3 m22_4 m22_5 m87_0 m87_1 m88 m96_0 t18 m22_0 m96_1, .ext 4, o6yba_1 kw kl kt kh t7 t10 t11 t12 t19 m22_1 m22_2 m22_3 m22_4 m22_5 m87_0 m87_1 m88 m96_0 (v6yba_1_t18 kw kl kt kh t7 t10 t11 t12 t19 m22_1 m22_2 m22_3 m22_4 m22_5 m87_0 m87_1 m88 m96_0 t18 m22_0 m96_1) (v6yba_1_m22_0 kw kl kt kh t7 t10 t11 t12 t19 m22_1 m22_2 m22_3 m22_4 m22_5 m87_0 m87_1 m88 m96_0 t18 m22_0 m96_1) (v6yba_1_m96_1 kw kl kt kh t7 t10 t11 t12 t19 m22_1 m22_2 m22_3 m22_4 m22_5 m87_0 m87_1 m88 m96_0 t18 m22_0 m96_1))]
noncomputable def l6yba (st : St) : Option (List (Bool × Ex × St)) := qget [.rp [.int .i64, .int .i64, .int .i64, .int .i64] [.i .i64, .i .i64, .i .i64, .i .i64] 0, .p 3 0 0, .i .i64, .p 22 0 0, .i .i64, .i .i64, .i .i64, .p 87 0 0, .p 88 0 0, .i .i64, .i .i64, .p 96 0 0, .u, .u] [(97, .fr 67), (98, .fr 71), (0, .dead), (1, .dead), (2, .dead), (3, .lrow 37 [.l [.nl]]), (4, .dead), (5, .dead), (6, .dead), (7, .dead), (8, .dead), (9, .dead), (10, .dead), (11, .dead), (12, .dead), (13, .dead), (14, .dead), (15, .dead), (16, .dead), (17, .dead), (18, .dead), (19, .dead), (20, .dead), (21, .dead), (22, .row 67 [.l [.i .i64, .i .i64, .i .i64, .i .i64, .i .i64, .i .i64]]), (23, .dead), (24, .dead), (25, .dead), (26, .dead), (27, .dead), (28, .dead), (29, .dead), (30, .dead), (31, .dead), (32, .dead), (33, .dead), (34, .dead), (35, .dead), (36, .dead), (37, .dead), (38, .dead), (39, .dead), (40, .dead), (41, .dead), (42, .dead), (43, .dead), (44, .dead), (45, .dead), (46, .dead), (47, .dead), (48, .dead), (49, .dead), (50, .dead), (51, .dead), (52, .dead), (53, .dead), (54, .dead), (55, .dead), (56, .dead), (57, .dead), (58, .dead), (59, .dead), (60, .dead), (61, .dead), (62, .dead), (63, .dead), (64, .dead), (65, .dead), (66, .dead), (67, .dead), (68, .dead), (69, .dead), (70, .dead), (71, .dead), (72, .dead), (73, .dead), (74, .dead), (75, .dead), (76, .dead), (77, .dead), (78, .dead), (79, .dead), (80, .dead), (81, .dead), (82, .dead), (83, .dead), (84, .dead), (85, .dead), (86, .dead), (87, .row 42 [.l [.i .i64, .i .i64]]), (88, .lrow 37 [.l [.gv 98 71]]), (89, .dead), (90, .dead), (91, .dead), (92, .dead), (93, .dead), (94, .dead), (95, .dead), (96, .lrow 71 [.l [.i .i64, .gv 97 67]])] 99 183 (normW Try.prog [(5, none), (6, none), (7, none), (9, none), (10, none), (11, none), (12, none), (14, none), (17, none), (18, none), (19, none), (20, none), (1009601, some 67), (1008800, some 71)] 97 st) fun ls => q6yba (lI ls 0) (lI ls 1) (lI ls 2) (lI ls 3) (lI ls 4) (lI ls 5) (lI ls 6) (lI ls 7) (lI ls 8) (lI ls 9) (lI ls 10) (lI ls 11) (lI ls 12) (lI ls 13) (lI ls 14) (lI ls 15) (lI ls 16) (lI ls 17) (lLL ls 18) (lI ls 19) (lLL ls 20)
structure S6yb where
  t18 : Int
  t19 : Int
  m22_0 : Int
  m88 : List (List AV)
inductive T6yb where
  | x0 (t7' : Int) (t18 : Int) (t19 : Int) (m22_0 : Int) (m88 : List (List AV))
  | x1 (t18 : Int) (t19 : Int) (m22_0 : Int) (m88 : List (List AV))
noncomputable def stp6yb (kw kl kt kh t7 t10 t11 t12 m22_1 m22_2 m22_3 m22_4 m22_5 m87_0 m87_1 t18 t19 m22_0 : Int) (m88 : List (List AV)) : Lp S6yb T6yb :=
  cond (decide (t19 ≤ m87_1)) (cond ((↑m88.length : Int).tmod 2 == 1) (cond (i6yba_0 kw kl kt kh t7 t10 t11 t12 t19 m22_1 m22_2 m22_3 m22_4 m22_5 m87_0 m87_1 m88 t19 t18 (IntKind.i64.wrap (IntKind.i64.wrap (0 - kt) + IntKind.i64.wrap (t12 - t11))) []) (.out (.x0 (v6yba_0_t7' kw kl kt kh t7 t10 t11 t12 t19 m22_1 m22_2 m22_3 m22_4 m22_5 m87_0 m87_1 m88 t19 t18 (IntKind.i64.wrap (IntKind.i64.wrap (0 - kt) + IntKind.i64.wrap (t12 - t11))) []) (v6yba_0_t18 kw kl kt kh t7 t10 t11 t12 t19 m22_1 m22_2 m22_3 m22_4 m22_5 m87_0 m87_1 m88 t19 t18 (IntKind.i64.wrap (IntKind.i64.wrap (0 - kt) + IntKind.i64.wrap (t12 - t11))) []) t19 (v6yba_0_m22_0 kw kl kt kh t7 t10 t11 t12 t19 m22_1 m22_2 m22_3 m22_4 m22_5 m87_0 m87_1 m88 t19 t18 (IntKind.i64.wrap (IntKind.i64.wrap (0 - kt) + IntKind.i64.wrap (t12 - t11))) []) m88)) (cond (i6yba_1 kw kl kt kh t7 t10 t11 t12 t19 m22_1 m22_2 m22_3 m22_4 m22_5 m87_0 m87_1 m88 t19 t18 (IntKind.i64.wrap (IntKind.i64.wrap (0 - kt) + IntKind.i64.wrap (t12 - t11))) []) (cond ((m88.length + [[AV.i IntKind.i64 t19, AV.rs 67 (v6yba_1_m96_1 kw kl kt kh t7 t10 t11 t12 t19 m22_1 m22_2 m22_3 m22_4 m22_5 m87_0 m87_1 m88 t19 t18 (IntKind.i64.wrap (IntKind.i64.wrap (0 - kt) + IntKind.i64.wrap (t12 - t11))) [])]].length).ble 9223372036854775807 && true) (cond (((m88.length + [[AV.i IntKind.i64 t19, AV.rs 67 (v6yba_1_m96_1 kw kl kt kh t7 t10 t11 t12 t19 m22_1 m22_2 m22_3 m22_4 m22_5 m87_0 m87_1 m88 t19 t18 (IntKind.i64.wrap (IntKind.i64.wrap (0 - kt) + IntKind.i64.wrap (t12 - t11))) [])]].length) * 32).ble 140737488355328) (cond (decide ((↑(m88 ++ [[AV.i IntKind.i64 t19, AV.rs 67 (v6yba_1_m96_1 kw kl kt kh t7 t10 t11 t12 t19 m22_1 m22_2 m22_3 m22_4 m22_5 m87_0 m87_1 m88 t19 t18 (IntKind.i64.wrap (IntKind.i64.wrap (0 - kt) + IntKind.i64.wrap (t12 - t11))) [])]]).length : Int) > 24)) (.out (.x0 3 (v6yba_1_t18 kw kl kt kh t7 t10 t11 t12 t19 m22_1 m22_2 m22_3 m22_4 m22_5 m87_0 m87_1 m88 t19 t18 (IntKind.i64.wrap (IntKind.i64.wrap (0 - kt) + IntKind.i64.wrap (t12 - t11))) []) t19 (v6yba_1_m22_0 kw kl kt kh t7 t10 t11 t12 t19 m22_1 m22_2 m22_3 m22_4 m22_5 m87_0 m87_1 m88 t19 t18 (IntKind.i64.wrap (IntKind.i64.wrap (0 - kt) + IntKind.i64.wrap (t12 - t11))) []) (m88 ++ [[AV.i IntKind.i64 t19, AV.rs 67 (v6yba_1_m96_1 kw kl kt kh t7 t10 t11 t12 t19 m22_1 m22_2 m22_3 m22_4 m22_5 m87_0 m87_1 m88 t19 t18 (IntKind.i64.wrap (IntKind.i64.wrap (0 - kt) + IntKind.i64.wrap (t12 - t11))) [])]]))) (.go ⟨v6yba_1_t18 kw kl kt kh t7 t10 t11 t12 t19 m22_1 m22_2 m22_3 m22_4 m22_5 m87_0 m87_1 m88 t19 t18 (IntKind.i64.wrap (IntKind.i64.wrap (0 - kt) + IntKind.i64.wrap (t12 - t11))) [], IntKind.i64.wrap (t19 + t10), v6yba_1_m22_0 kw kl kt kh t7 t10 t11 t12 t19 m22_1 m22_2 m22_3 m22_4 m22_5 m87_0 m87_1 m88 t19 t18 (IntKind.i64.wrap (IntKind.i64.wrap (0 - kt) + IntKind.i64.wrap (t12 - t11))) [], m88 ++ [[AV.i IntKind.i64 t19, AV.rs 67 (v6yba_1_m96_1 kw kl kt kh t7 t10 t11 t12 t19 m22_1 m22_2 m22_3 m22_4 m22_5 m87_0 m87_1 m88 t19 t18 (IntKind.i64.wrap (IntKind.i64.wrap (0 - kt) + IntKind.i64.wrap (t12 - t11))) [])]]⟩)) (.bad)) (.bad)) (.bad))) (cond (i6yba_0 kw kl kt kh t7 t10 t11 t12 t19 m22_1 m22_2 m22_3 m22_4 m22_5 m87_0 m87_1 m88 t19 t18 (IntKind.i64.wrap (0 - kt)) []) (.out (.x0 (v6yba_0_t7' kw kl kt kh t7 t10 t11 t12 t19 m22_1 m22_2 m22_3 m22_4 m22_5 m87_0 m87_1 m88 t19 t18 (IntKind.i64.wrap (0 - kt)) []) (v6yba_0_t18 kw kl kt kh t7 t10 t11 t12 t19 m22_1 m22_2 m22_3 m22_4 m22_5 m87_0 m87_1 m88 t19 t18 (IntKind.i64.wrap (0 - kt)) []) t19 (v6yba_0_m22_0 kw kl kt kh t7 t10 t11 t12 t19 m22_1 m22_2 m22_3 m22_4 m22_5 m87_0 m87_1 m88 t19 t18 (IntKind.i64.wrap (0 - kt)) []) m88)) (cond (i6yba_1 kw kl kt kh t7 t10 t11 t12 t19 m22_1 m22_2 m22_3 m22_4 m22_5 m87_0 m87_1 m88 t19 t18 (IntKind.i64.wrap (0 - kt)) []) (cond ((m88.length + [[AV.i IntKind.i64 t19, AV.rs 67 (v6yba_1_m96_1 kw kl kt kh t7 t10 t11 t12 t19 m22_1 m22_2 m22_3 m22_4 m22_5 m87_0 m87_1 m88 t19 t18 (IntKind.i64.wrap (0 - kt)) [])]].length).ble 9223372036854775807 && true) (cond (((m88.length + [[AV.i IntKind.i64 t19, AV.rs 67 (v6yba_1_m96_1 kw kl kt kh t7 t10 t11 t12 t19 m22_1 m22_2 m22_3 m22_4 m22_5 m87_0 m87_1 m88 t19 t18 (IntKind.i64.wrap (0 - kt)) [])]].length) * 32).ble 140737488355328) (cond (decide ((↑(m88 ++ [[AV.i IntKind.i64 t19, AV.rs 67 (v6yba_1_m96_1 kw kl kt kh t7 t10 t11 t12 t19 m22_1 m22_2 m22_3 m22_4 m22_5 m87_0 m87_1 m88 t19 t18 (IntKind.i64.wrap (0 - kt)) [])]]).length : Int) > 24)) (.out (.x0 3 (v6yba_1_t18 kw kl kt kh t7 t10 t11 t12 t19 m22_1 m22_2 m22_3 m22_4 m22_5 m87_0 m87_1 m88 t19 t18 (IntKind.i64.wrap (0 - kt)) []) t19 (v6yba_1_m22_0 kw kl kt kh t7 t10 t11 t12 t19 m22_1 m22_2 m22_3 m22_4 m22_5 m87_0 m87_1 m88 t19 t18 (IntKind.i64.wrap (0 - kt)) []) (m88 ++ [[AV.i IntKind.i64 t19, AV.rs 67 (v6yba_1_m96_1 kw kl kt kh t7 t10 t11 t12 t19 m22_1 m22_2 m22_3 m22_4 m22_5 m87_0 m87_1 m88 t19 t18 (IntKind.i64.wrap (0 - kt)) [])]]))) (.go ⟨v6yba_1_t18 kw kl kt kh t7 t10 t11 t12 t19 m22_1 m22_2 m22_3 m22_4 m22_5 m87_0 m87_1 m88 t19 t18 (IntKind.i64.wrap (0 - kt)) [], IntKind.i64.wrap (t19 + t10), v6yba_1_m22_0 kw kl kt kh t7 t10 t11 t12 t19 m22_1 m22_2 m22_3 m22_4 m22_5 m87_0 m87_1 m88 t19 t18 (IntKind.i64.wrap (0 - kt)) [], m88 ++ [[AV.i IntKind.i64 t19, AV.rs 67 (v6yba_1_m96_1 kw kl kt kh t7 t10 t11 t12 t19 m22_1 m22_2 m22_3 m22_4 m22_5 m87_0 m87_1 m88 t19 t18 (IntKind.i64.wrap (0 - kt)) [])]]⟩)) (.bad)) (.bad)) (.bad)))) (.out (.x1 t18 t19 m22_0 m88))
noncomputable def o6yb_0 (kw kl kt kh t7 t10 t11 t12 m22_1 m22_2 m22_3 m22_4 m22_5 m87_0 m87_1 t7' t18 t19 m22_0 : Int) (m88 : List (List AV)) : St :=
  { t := [(5, .rp [.int .i64, .int .i64, .int .i64, .int .i64] [.i .i64 kw, .i .i64 kl, .i .i64 kt, .i .i64 kh] 0), (6, .p 3 0 0), (7, .i .i64 t7'), (9, .p 22 0 0), (10, .i .i64 t10), (11, .i .i64 t11), (12, .i .i64 t12), (14, .p 87 0 0), (17, .p 88 0 0), (18, .i .i64 t18), (19, .i .i64 t19), (1008800, .u)], m := [(89, .fr 71), (0, .dead), (1, .dead), (2, .dead), (3, .lrow 37 [[.nl]]), (4, .dead), (5, .dead), (6, .dead), (7, .dead), (8, .dead), (9, .dead), (10, .dead), (11, .dead), (12, .dead), (13, .dead), (14, .dead), (15, .dead), (16, .dead), (17, .dead), (18, .dead), (19, .dead), (20, .dead), (21, .dead), (22, .row 67 [[.i .i64 m22_0, .i .i64 m22_1, .i .i64 m22_2, .i .i64 m22_3, .i .i64 m22_4, .i .i64 m22_5]]), (23, .dead), (24, .dead), (25, .dead), (26, .dead), (27, .dead), (28, .dead), (29, .dead), (30, .dead), (31, .dead), (32, .dead), (33, .dead), (34, .dead), (35, .dead), (36, .dead), (37, .dead), (38, .dead), (39, .dead), (40, .dead), (41, .dead), (42, .dead), (43, .dead), (44, .dead), (45, .dead), (46, .dead), (47, .dead), (48, .dead), (49, .dead), (50, .dead), (51, .dead), (52, .dead), (53, .dead), (54, .dead), (55, .dead), (56, .dead), (57, .dead), (58, .dead), (59, .dead), (60, .dead), (61, .dead), (62, .dead), (63, .dead), (64, .dead), (65, .dead), (66, .dead), (67, .dead), (68, .dead), (69, .dead), (70, .dead), (71, .dead), (72, .dead), (73, .dead), (74, .dead), (75, .dead), (76, .dead), (77, .dead), (78, .dead), (79, .dead), (80, .dead), (81, .dead), (82, .dead), (83, .dead), (84, .dead), (85, .dead), (86, .dead), (87, .row 42 [[.i .i64 m87_0, .i .i64 m87_1]]), (88, .lrow 37 [[.gv 89 71 m88]])], nx := 90, nt := 183 }
noncomputable def o6yb_1 (kw kl kt kh t7 t10 t11 t12 m22_1 m22_2 m22_3 m22_4 m22_5 m87_0 m87_1 t18 t19 m22_0 : Int) (m88 : List (List AV)) : St :=
  { t := [(5, .rp [.int .i64, .int .i64, .int .i64, .int .i64] [.i .i64 kw, .i .i64 kl, .i .i64 kt, .i .i64 kh] 0), (6, .p 3 0 0), (7, .i .i64 t7), (9, .p 22 0 0), (10, .i .i64 t10), (11, .i .i64 t11), (12, .i .i64 t12), (14, .p 87 0 0), (17, .p 88 0 0), (18, .i .i64 t18), (19, .i .i64 t19), (1008800, .u)], m := [(89, .fr 71), (0, .dead), (1, .dead), (2, .dead), (3, .lrow 37 [[.nl]]), (4, .dead), (5, .dead), (6, .dead), (7, .dead), (8, .dead), (9, .dead), (10, .dead), (11, .dead), (12, .dead), (13, .dead), (14, .dead), (15, .dead), (16, .dead), (17, .dead), (18, .dead), (19, .dead), (20, .dead), (21, .dead), (22, .row 67 [[.i .i64 m22_0, .i .i64 m22_1, .i .i64 m22_2, .i .i64 m22_3, .i .i64 m22_4, .i .i64 m22_5]]), (23, .dead), (24, .dead), (25, .dead), (26, .dead), (27, .dead), (28, .dead), (29, .dead), (30, .dead), (31, .dead), (32, .dead), (33, .dead), (34, .dead), (35, .dead), (36, .dead), (37, .dead), (38, .dead), (39, .dead), (40, .dead), (41, .dead), (42, .dead), (43, .dead), (44, .dead), (45, .dead), (46, .dead), (47, .dead), (48, .dead), (49, .dead), (50, .dead), (51, .dead), (52, .dead), (53, .dead), (54, .dead), (55, .dead), (56, .dead), (57, .dead), (58, .dead), (59, .dead), (60, .dead), (61, .dead), (62, .dead), (63, .dead), (64, .dead), (65, .dead), (66, .dead), (67, .dead), (68, .dead), (69, .dead), (70, .dead), (71, .dead), (72, .dead), (73, .dead), (74, .dead), (75, .dead), (76, .dead), (77, .dead), (78, .dead), (79, .dead), (80, .dead), (81, .dead), (82, .dead), (83, .dead), (84, .dead), (85, .dead), (86, .dead), (87, .row 42 [[.i .i64 m87_0, .i .i64 m87_1]]), (88, .lrow 37 [[.gv 89 71 m88]])], nx := 90, nt := 183 }
noncomputable def ou6yb (kw kl kt kh t7 t10 t11 t12 m22_1 m22_2 m22_3 m22_4 m22_5 m87_0 m87_1 : Int) : T6yb → Ex × St
  | .x0 t7' t18 t19 m22_0 m88 => (.ret, o6yb_0 kw kl kt kh t7 t10 t11 t12 m22_1 m22_2 m22_3 m22_4 m22_5 m87_0 m87_1 t7' t18 t19 m22_0 m88)
  | .x1 t18 t19 m22_0 m88 => (.ext 2, o6yb_1 kw kl kt kh t7 t10 t11 t12 m22_1 m22_2 m22_3 m22_4 m22_5 m87_0 m87_1 t18 t19 m22_0 m88)
noncomputable def r6yb (kw kl kt kh t7 t10 t11 t12 m22_1 m22_2 m22_3 m22_4 m22_5 m87_0 m87_1 t18 t19 m22_0 : Int) (m88 : List (List AV)) : Option T6yb := run (fun x => stp6yb kw kl kt kh t7 t10 t11 t12 m22_1 m22_2 m22_3 m22_4 m22_5 m87_0 m87_1 x.t18 x.t19 x.m22_0 x.m88) (⟨t18, t19, m22_0, m88⟩ : S6yb)
noncomputable def i6yb_0 (kw kl kt kh t7 t10 t11 t12 m22_1 m22_2 m22_3 m22_4 m22_5 m87_0 m87_1 t18 t19 m22_0 : Int) (m88 : List (List AV)) : Bool := match r6yb kw kl kt kh t7 t10 t11 t12 m22_1 m22_2 m22_3 m22_4 m22_5 m87_0 m87_1 t18 t19 m22_0 m88 with
  | some (.x0 _ _ _ _ _) => true
  | _ => false
noncomputable def v6yb_0_t7' (kw kl kt kh t7 t10 t11 t12 m22_1 m22_2 m22_3 m22_4 m22_5 m87_0 m87_1 t18 t19 m22_0 : Int) (m88 : List (List AV)) : Int := match r6yb kw kl kt kh t7 t10 t11 t12 m22_1 m22_2 m22_3 m22_4 m22_5 m87_0 m87_1 t18 t19 m22_0 m88 with
  | some (.x0 t7' _ _ _ _) => t7'
  | _ => default
noncomputable def v6yb_0_t18 (kw kl kt kh t7 t10 t11 t12 m22_1 m22_2 m22_3 m22_4 m22_5 m87_0 m87_1 t18 t19 m22_0 : Int) (m88 : List (List AV)) : Int := match r6yb kw kl kt kh t7 t10 t11 t12 m22_1 m22_2 m22_3 m22_4 m22_5 m87_0 m87_1 t18 t19 m22_0 m88 with
  | some (.x0 _ t18 _ _ _) => t18
  | _ => default
noncomputable def v6yb_0_t19 (kw kl kt kh t7 t10 t11 t12 m22_1 m22_2 m22_3 m22_4 m22_5 m87_0 m87_1 t18 t19 m22_0 : Int) (m88 : List (List AV)) : Int := match r6yb kw kl kt kh t7 t10 t11 t12 m22_1 m22_2 m22_3 m22_4 m22_5 m87_0 m87_1 t18 t19 m22_0 m88 with
  | some (.x0 _ _ t19 _ _) => t19
  | _ => default
noncomputable def v6yb_0_m22_0 (kw kl kt kh t7 t10 t11 t12 m22_1 m22_2 m22_3 m22_4 m22_5 m87_0 m87_1 t18 t19 m22_0 : Int) (m88 : List (List AV)) : Int := match r6yb kw kl kt kh t7 t10 t11 t12 m22_1 m22_2 m22_3 m22_4 m22_5 m87_0 m87_1 t18 t19 m22_0 m88 with
  | some (.x0 _ _ _ m22_0 _) => m22_0
  | _ => default
noncomputable def v6yb_0_m88 (kw kl kt kh t7 t10 t11 t12 m22_1 m22_2 m22_3 m22_4 m22_5 m87_0 m87_1 t18 t19 m22_0 : Int) (m88 : List (List AV)) : List (List AV) := match r6yb kw kl kt kh t7 t10 t11 t12 m22_1 m22_2 m22_3 m22_4 m22_5 m87_0 m87_1 t18 t19 m22_0 m88 with
  | some (.x0 _ _ _ _ m88) => m88
  | _ => default
noncomputable def i6yb_1 (kw kl kt kh t7 t10 t11 t12 m22_1 m22_2 m22_3 m22_4 m22_5 m87_0 m87_1 t18 t19 m22_0 : Int) (m88 : List (List AV)) : Bool := match r6yb kw kl kt kh t7 t10 t11 t12 m22_1 m22_2 m22_3 m22_4 m22_5 m87_0 m87_1 t18 t19 m22_0 m88 with
  | some (.x1 _ _ _ _) => true
  | _ => false
noncomputable def v6yb_1_t18 (kw kl kt kh t7 t10 t11 t12 m22_1 m22_2 m22_3 m22_4 m22_5 m87_0 m87_1 t18 t19 m22_0 : Int) (m88 : List (List AV)) : Int := match r6yb kw kl kt kh t7 t10 t11 t12 m22_1 m22_2 m22_3 m22_4 m22_5 m87_0 m87_1 t18 t19 m22_0 m88 with
  | some (.x1 t18 _ _ _) => t18
  | _ => default
noncomputable def v6yb_1_t19 (kw kl kt kh t7 t10 t11 t12 m22_1 m22_2 m22_3 m22_4 m22_5 m87_0 m87_1 t18 t19 m22_0 : Int) (m88 : List (List AV)) : Int := match r6yb kw kl kt kh t7 t10 t11 t12 m22_1 m22_2 m22_3 m22_4 m22_5 m87_0 m87_1 t18 t19 m22_0 m88 with
  | some (.x1 _ t19 _ _) => t19
  | _ => default
noncomputable def v6yb_1_m22_0 (kw kl kt kh t7 t10 t11 t12 m22_1 m22_2 m22_3 m22_4 m22_5 m87_0 m87_1 t18 t19 m22_0 : Int) (m88 : List (List AV)) : Int := match r6yb kw kl kt kh t7 t10 t11 t12 m22_1 m22_2 m22_3 m22_4 m22_5 m87_0 m87_1 t18 t19 m22_0 m88 with
  | some (.x1 _ _ m22_0 _) => m22_0
  | _ => default
noncomputable def v6yb_1_m88 (kw kl kt kh t7 t10 t11 t12 m22_1 m22_2 m22_3 m22_4 m22_5 m87_0 m87_1 t18 t19 m22_0 : Int) (m88 : List (List AV)) : List (List AV) := match r6yb kw kl kt kh t7 t10 t11 t12 m22_1 m22_2 m22_3 m22_4 m22_5 m87_0 m87_1 t18 t19 m22_0 m88 with
  | some (.x1 _ _ _ m88) => m88
  | _ => default
noncomputable def q6yb (kw kl kt kh t7 t10 t11 t12 t18 t19 m22_0 m22_1 m22_2 m22_3 m22_4 m22_5 m87_0 m87_1 : Int) (m88 : List (List AV)) : List (Bool × Ex × St) := [(i6yb_0 kw kl kt kh t7 t10 t11 t12 m22_1 m22_2 m22_3 m22_4 m22_5 m87_0 m87_1 t18 t19 m22_0 m88, .ret, o6yb_0 kw kl kt kh t7 t10 t11 t12 m22_1 m22_2 m22_3 m22_4 m22_5 m87_0 m87_1 (v6yb_0_t7' kw kl kt kh t7 t10 t11 t12 m22_1 m22_2 m22_3 m22_4 m22_5 m87_0 m87_1 t18 t19 m22_0 m88) (v6yb_0_t18 kw kl kt kh t7 t10 t11 t12 m22_1 m22_2 m22_3 m22_4 m22_5 m87_0 m87_1 t18 t19 m22_0 m88) (v6yb_0_t19 kw kl kt kh t7 t10 t11 t12 m22_1 m22_2 m22_3 m22_4 m22_5 m87_0 m87_1 t18 t19 m22_0 m88) (v6yb_0_m22_0 kw kl kt kh t7 t10 t11 t12 m22_1 m22_2 m22_3 m22_4 m22_5 m87_0 m87_1 t18 t19 m22_0 m88) (v6yb_0_m88 kw kl kt kh t7 t10 t11 t12 m22_1 m22_2 m22_3 m22_4 m22_5 m87_0 m87_1 t18 t19 m22_0 m88)), (i6yb_1 kw kl kt kh t7 t10 t11 t12 m22_1 m22_2 m22_3 m22_4 m22_5 m87_0 m87_1 t18 t19 m22_0 m88, .ext 2, o6yb_1 kw kl kt kh t7 t10 t11 t12 m22_1 m22_2 m22_3 m22_4 m22_5 m87_0 m87_1 (v6yb_1_t18 kw kl kt kh t7 t10 t11 t12 m22_1 m22_2 m22_3 m22_4 m22_5 m87_0 m87_1 t18 t19 m22_0 m88) (v6yb_1_t19 kw kl kt kh t7 t10 t11 t12 m22_1 m22_2 m22_3 m22_4 m22_5 m87_0 m87_1 t18 t19 m22_0 m88) (v6yb_1_m22_0 kw kl kt kh t7 t10 t11 t12 m22_1 m22_2 m22_3 m22_4 m22_5 m87_0 m87_1 t18 t19 m22_0 m88) (v6yb_1_m88 kw kl kt kh t7 t10 t11 t12 m22_1 m22_2 m22_3 m22_4 m22_5 m87_0 m87_1 t18 t19 m22_0 m88))]
noncomputable def l6yb (st : St) : Option (List (Bool × Ex × St)) := qget [.rp [.int .i64, .int .i64, .int .i64, .int .i64] [.i .i64, .i .i64, .i .i64, .i .i64] 0, .p 3 0 0, .i .i64, .p 22 0 0, .i .i64, .i .i64, .i .i64, .p 87 0 0, .p 88 0 0, .i .i64, .i .i64, .u] [(89, .fr 71), (0, .dead), (1, .dead), (2, .dead), (3, .lrow 37 [.l [.nl]]), (4, .dead), (5, .dead), (6, .dead), (7, .dead), (8, .dead), (9, .dead), (10, .dead), (11, .dead), (12, .dead), (13, .dead), (14, .dead), (15, .dead), (16, .dead), (17, .dead), (18, .dead), (19, .dead), (20, .dead), (21, .dead), (22, .row 67 [.l [.i .i64, .i .i64, .i .i64, .i .i64, .i .i64, .i .i64]]), (23, .dead), (24, .dead), (25, .dead), (26, .dead), (27, .dead), (28, .dead), (29, .dead), (30, .dead), (31, .dead), (32, .dead), (33, .dead), (34, .dead), (35, .dead), (36, .dead), (37, .dead), (38, .dead), (39, .dead), (40, .dead), (41, .dead), (42, .dead), (43, .dead), (44, .dead), (45, .dead), (46, .dead), (47, .dead), (48, .dead), (49, .dead), (50, .dead), (51, .dead), (52, .dead), (53, .dead), (54, .dead), (55, .dead), (56, .dead), (57, .dead), (58, .dead), (59, .dead), (60, .dead), (61, .dead), (62, .dead), (63, .dead), (64, .dead), (65, .dead), (66, .dead), (67, .dead), (68, .dead), (69, .dead), (70, .dead), (71, .dead), (72, .dead), (73, .dead), (74, .dead), (75, .dead), (76, .dead), (77, .dead), (78, .dead), (79, .dead), (80, .dead), (81, .dead), (82, .dead), (83, .dead), (84, .dead), (85, .dead), (86, .dead), (87, .row 42 [.l [.i .i64, .i .i64]]), (88, .lrow 37 [.l [.gv 89 71]])] 90 183 (normW Try.prog [(5, none), (6, none), (7, none), (9, none), (10, none), (11, none), (12, none), (14, none), (17, none), (18, none), (19, none), (1008800, some 71)] 89 st) fun ls => q6yb (lI ls 0) (lI ls 1) (lI ls 2) (lI ls 3) (lI ls 4) (lI ls 5) (lI ls 6) (lI ls 7) (lI ls 8) (lI ls 9) (lI ls 10) (lI ls 11) (lI ls 12) (lI ls 13) (lI ls 14) (lI ls 15) (lI ls 16) (lI ls 17) (lLL ls 18)
noncomputable def L6y : LSpec := fun p st => match p with
  | [false, true, false, true, true, true, true, true, true, true, true, true, true, true, true, true] => l6ya st
  | [false, false, true, true, true, false, false, true, false, false, true, false, true, true, true, true, true, true, true, true, true, true, true, true, true, true, true, true] => l6yba st
  | [false, true, false, true, true, true, true, true, true, true, true, true, true, true, true, true, true, true, true] => l6yb st
  | _ => none
theorem is6ya_0 (kw kl kt kh t7 t10 t11 t12 t13 : Int) (os : List (List AV)) (t101 m22_0 m22_1 m22_2 m22_3 m22_4 m22_5 t102 m87_0 m87_1 : Int) (h : i6ya_0 kw kl kt kh t7 t10 t11 t12 t13 os t101 m22_0 m22_1 m22_2 m22_3 m22_4 m22_5 t102 m87_0 m87_1 = true) : r6ya kw kl kt kh t7 t10 t11 t12 t13 os t101 m22_0 m22_1 m22_2 m22_3 m22_4 m22_5 t102 m87_0 m87_1 = some (.x0 (v6ya_0_t102 kw kl kt kh t7 t10 t11 t12 t13 os t101 m22_0 m22_1 m22_2 m22_3 m22_4 m22_5 t102 m87_0 m87_1) (v6ya_0_m87_0 kw kl kt kh t7 t10 t11 t12 t13 os t101 m22_0 m22_1 m22_2 m22_3 m22_4 m22_5 t102 m87_0 m87_1) (v6ya_0_m87_1 kw kl kt kh t7 t10 t11 t12 t13 os t101 m22_0 m22_1 m22_2 m22_3 m22_4 m22_5 t102 m87_0 m87_1)) := by
  unfold i6ya_0 at h
  unfold v6ya_0_t102 v6ya_0_m87_0 v6ya_0_m87_1
  generalize r6ya kw kl kt kh t7 t10 t11 t12 t13 os t101 m22_0 m22_1 m22_2 m22_3 m22_4 m22_5 t102 m87_0 m87_1 = r at h ⊢
  rcases r with _ | y
  · cases h
  · cases y <;> first | rfl | cases h
theorem round6ya (kw kl kt kh t7 t10 t11 t12 t13 : Int) (os : List (List AV)) (t101 t102 m22_0 m22_1 m22_2 m22_3 m22_4 m22_5 m87_0 m87_1 : Int) : round Try.prog SY4 ro6y L6y lp6ya [false, true, false, true, true, true, true, true, true, true, true, true, true, true, true, true] [(5, none), (6, none), (7, none), (9, none), (10, none), (11, none), (12, none), (13, none), (14, none), (100, none), (101, none), (102, none)] 88 (s6ya kw kl kt kh t7 t10 t11 t12 t13 os t101 t102 m22_0 m22_1 m22_2 m22_3 m22_4 m22_5 m87_0 m87_1) =
    cond (decide (t102 < t101)) (cond (inb t102 os.length) (some (.nrm, s6ya kw kl kt kh t7 t10 t11 t12 t13 os t101 (IntKind.i64.wrap (t102 + 1)) m22_0 m22_1 m22_2 m22_3 m22_4 m22_5 (bmax m87_0 (fI (os.getD t102.toNat []) 0)) (bmax m87_1 (fI (os.getD t102.toNat []) 1)))) (none)) (some (.ext 0, o6ya_0 kw kl kt kh t7 t10 t11 t12 t13 os t101 m22_0 m22_1 m22_2 m22_3 m22_4 m22_5 t102 m87_0 m87_1)) := by kernel_rfl
theorem rnd6ya (kw kl kt kh t7 t10 t11 t12 t13 : Int) (os : List (List AV)) (t101 m22_0 m22_1 m22_2 m22_3 m22_4 m22_5 : Int) (x : S6ya) : round Try.prog SY4 ro6y L6y lp6ya [false, true, false, true, true, true, true, true, true, true, true, true, true, true, true, true] [(5, none), (6, none), (7, none), (9, none), (10, none), (11, none), (12, none), (13, none), (14, none), (100, none), (101, none), (102, none)] 88 ((fun x => s6ya kw kl kt kh t7 t10 t11 t12 t13 os t101 x.t102 m22_0 m22_1 m22_2 m22_3 m22_4 m22_5 x.m87_0 x.m87_1) x) = toR (fun x => s6ya kw kl kt kh t7 t10 t11 t12 t13 os t101 x.t102 m22_0 m22_1 m22_2 m22_3 m22_4 m22_5 x.m87_0 x.m87_1) (ou6ya kw kl kt kh t7 t10 t11 t12 t13 os t101 m22_0 m22_1 m22_2 m22_3 m22_4 m22_5) (stp6ya kw kl kt kh t7 t10 t11 t12 t13 os t101 m22_0 m22_1 m22_2 m22_3 m22_4 m22_5 x.t102 x.m87_0 x.m87_1) := by
  refine (round6ya _ _ _ _ _ _ _ _ _ _ _ _ _ _ _ _ _ _ _ _ ).trans ?_
  unfold stp6ya
  simp only [toR_cond]
  rfl
theorem lokb6ya (kw kl kt kh t7 t10 t11 t12 t13 : Int) (os : List (List AV)) (t101 t102 m22_0 m22_1 m22_2 m22_3 m22_4 m22_5 m87_0 m87_1 : Int) {e : Ex} {s : St} (hch : Chosen (q6ya kw kl kt kh t7 t10 t11 t12 t13 os t101 t102 m22_0 m22_1 m22_2 m22_3 m22_4 m22_5 m87_0 m87_1) e s) : LB Try.prog SY4 ro6y L6y lp6ya [false, true, false, true, true, true, true, true, true, true, true, true, true, true, true, true] [(5, none), (6, none), (7, none), (9, none), (10, none), (11, none), (12, none), (13, none), (14, none), (100, none), (101, none), (102, none)] 88 (s6ya kw kl kt kh t7 t10 t11 t12 t13 os t101 t102 m22_0 m22_1 m22_2 m22_3 m22_4 m22_5 m87_0 m87_1) e s := by
  unfold q6ya at hch
  have main := fun y h => LB_run (x := (⟨t102, m87_0, m87_1⟩ : S6ya)) (y := y) (nb := 88) (fun y => by cases y <;> simp [ou6ya]) (rnd6ya kw kl kt kh t7 t10 t11 t12 t13 os t101 m22_0 m22_1 m22_2 m22_3 m22_4 m22_5) h
  obtain ⟨x, hx, hg, rfl, rfl⟩ := chosen_any hch
  simp only [List.mem_cons, List.not_mem_nil, or_false] at hx
  subst hx
  exact main _ (is6ya_0 kw kl kt kh t7 t10 t11 t12 t13 os t101 m22_0 m22_1 m22_2 m22_3 m22_4 m22_5 t102 m87_0 m87_1 hg)
theorem lok6ya {st : St} {outs : List (Bool × Ex × St)} {e : Ex} {s : St} (hl : l6ya st = some outs) (hch : Chosen outs e s) :
    ∃ keep nb, 0 ≤ nb ∧ LB Try.prog SY4 ro6y L6y lp6ya [false, true, false, true, true, true, true, true, true, true, true, true, true, true, true, true] keep nb st e s := by
  unfold l6ya at hl
  obtain ⟨ls, hno, rfl⟩ := qget_some hl
  have hno := normW_norm hno
  refine ⟨_, _, ?_, .enterQ hno (s2 := s6ya (lI ls 0) (lI ls 1) (lI ls 2) (lI ls 3) (lI ls 4) (lI ls 5) (lI ls 6) (lI ls 7) (lI ls 8) (lLL ls 9) (lI ls 10) (lI ls 11) (lI ls 12) (lI ls 13) (lI ls 14) (lI ls 15) (lI ls 16) (lI ls 17) (lI ls 18) (lI ls 19)) (by kernel_rfl) (lokb6ya _ _ _ _ _ _ _ _ _ _ _ _ _ _ _ _ _ _ _ _ hch)⟩
  decide
theorem is6yba_0 (kw kl kt kh t7 t10 t11 t12 t19 m22_1 m22_2 m22_3 m22_4 m22_5 m87_0 m87_1 : Int) (m88 : List (List AV)) (m96_0 t18 m22_0 : Int) (m96_1 : List (List AV)) (h : i6yba_0 kw kl kt kh t7 t10 t11 t12 t19 m22_1 m22_2 m22_3 m22_4 m22_5 m87_0 m87_1 m88 m96_0 t18 m22_0 m96_1 = true) : r6yba kw kl kt kh t7 t10 t11 t12 t19 m22_1 m22_2 m22_3 m22_4 m22_5 m87_0 m87_1 m88 m96_0 t18 m22_0 m96_1 = some (.x0 (v6yba_0_t7' kw kl kt kh t7 t10 t11 t12 t19 m22_1 m22_2 m22_3 m22_4 m22_5 m87_0 m87_1 m88 m96_0 t18 m22_0 m96_1) (v6yba_0_t18 kw kl kt kh t7 t10 t11 t12 t19 m22_1 m22_2 m22_3 m22_4 m22_5 m87_0 m87_1 m88 m96_0 t18 m22_0 m96_1) (v6yba_0_m22_0 kw kl kt kh t7 t10 t11 t12 t19 m22_1 m22_2 m22_3 m22_4 m22_5 m87_0 m87_1 m88 m96_0 t18 m22_0 m96_1) (v6yba_0_m96_1 kw kl kt kh t7 t10 t11 t12 t19 m22_1 m22_2 m22_3 m22_4 m22_5 m87_0 m87_1 m88 m96_0 t18 m22_0 m96_1)) := by
  unfold i6yba_0 at h
  unfold v6yba_0_t7' v6yba_0_t18 v6yba_0_m22_0 v6yba_0_m96_1
  generalize r6yba kw kl kt kh t7 t10 t11 t12 t19 m22_1 m22_2 m22_3 m22_4 m22_5 m87_0 m87_1 m88 m96_0 t18 m22_0 m96_1 = r at h ⊢
  rcases r with _ | y
  · cases h
  · cases y <;> first | rfl | cases h
theorem is6yba_1 (kw kl kt kh t7 t10 t11 t12 t19 m22_1 m22_2 m22_3 m22_4 m22_5 m87_0 m87_1 : Int) (m88 : List (List AV)) (m96_0 t18 m22_0 : Int) (m96_1 : List (List AV)) (h : i6yba_1 kw kl kt kh t7 t10 t11 t12 t19 m22_1 m22_2 m22_3 m22_4 m22_5 m87_0 m87_1 m88 m96_0 t18 m22_0 m96_1 = true) : r6yba kw kl kt kh t7 t10 t11 t12 t19 m22_1 m22_2 m22_3 m22_4 m22_5 m87_0 m87_1 m88 m96_0 t18 m22_0 m96_1 = some (.x1 (v6yba_1_t18 kw kl kt kh t7 t10 t11 t12 t19 m22_1 m22_2 m22_3 m22_4 m22_5 m87_0 m87_1 m88 m96_0 t18 m22_0 m96_1) (v6yba_1_m22_0 kw kl kt kh t7 t10 t11 t12 t19 m22_1 m22_2 m22_3 m22_4 m22_5 m87_0 m87_1 m88 m96_0 t18 m22_0 m96_1) (v6yba_1_m96_1 kw kl kt kh t7 t10 t11 t12 t19 m22_1 m22_2 m22_3 m22_4 m22_5 m87_0 m87_1 m88 m96_0 t18 m22_0 m96_1)) := by
  unfold i6yba_1 at h
  unfold v6yba_1_t18 v6yba_1_m22_0 v6yba_1_m96_1
  generalize r6yba kw kl kt kh t7 t10 t11 t12 t19 m22_1 m22_2 m22_3 m22_4 m22_5 m87_0 m87_1 m88 m96_0 t18 m22_0 m96_1 = r at h ⊢
  rcases r with _ | y
  · cases h
  · cases y <;> first | rfl | cases h
theorem round6yba (kw kl kt kh t7 t10 t11 t12 t18 t19 m22_0 m22_1 m22_2 m22_3 m22_4 m22_5 m87_0 m87_1 : Int) (m88 : List (List AV)) (m96_0 : Int) (m96_1 : List (List AV)) : round Try.prog SY4 ro6y L6y lp6yba [false, false, true, true, true, false, false, true, false, false, true, false, true, true, true, true, true, true, true, true, true, true, true, true, true, true, true, true] [(5, none), (6, none), (7, none), (9, none), (10, none), (11, none), (12, none), (14, none), (17, none), (18, none), (19, none), (20, none), (1009601, some 67), (1008800, some 71)] 97 (s6yba kw kl kt kh t7 t10 t11 t12 t18 t19 m22_0 m22_1 m22_2 m22_3 m22_4 m22_5 m87_0 m87_1 m88 m96_0 m96_1) =
    cond ((m96_1.length + [[AV.i IntKind.i64 m22_0, AV.i IntKind.i64 m22_1, AV.i IntKind.i64 m22_2, AV.i IntKind.i64 m22_3, AV.i IntKind.i64 m22_4, AV.i IntKind.i64 m22_5]].length).ble 9223372036854775807 && true) (cond (((m96_1.length + [[AV.i IntKind.i64 m22_0, AV.i IntKind.i64 m22_1, AV.i IntKind.i64 m22_2, AV.i IntKind.i64 m22_3, AV.i IntKind.i64 m22_4, AV.i IntKind.i64 m22_5]].length) * 48).ble 140737488355328) (cond (decide (IntKind.i64.wrap (t18 + 1) > 96)) (some (.ret, o6yba_0 kw kl kt kh t7 t10 t11 t12 t19 m22_1 m22_2 m22_3 m22_4 m22_5 m87_0 m87_1 m88 m96_0 3 (IntKind.i64.wrap (t18 + 1)) m22_0 (m96_1 ++ [[AV.i IntKind.i64 m22_0, AV.i IntKind.i64 m22_1, AV.i IntKind.i64 m22_2, AV.i IntKind.i64 m22_3, AV.i IntKind.i64 m22_4, AV.i IntKind.i64 m22_5]]))) (cond (decide (IntKind.i64.wrap (IntKind.i64.wrap (m22_0 + kw) - kt) ≥ m87_0)) (some (.ext 4, o6yba_1 kw kl kt kh t7 t10 t11 t12 t19 m22_1 m22_2 m22_3 m22_4 m22_5 m87_0 m87_1 m88 m96_0 (IntKind.i64.wrap (t18 + 1)) m22_0 (m96_1 ++ [[AV.i IntKind.i64 m22_0, AV.i IntKind.i64 m22_1, AV.i IntKind.i64 m22_2, AV.i IntKind.i64 m22_3, AV.i IntKind.i64 m22_4, AV.i IntKind.i64 m22_5]]))) (some (.nrm, s6yba kw kl kt kh t7 t10 t11 t12 (IntKind.i64.wrap (t18 + 1)) t19 (IntKind.i64.wrap (m22_0 + t11)) m22_1 m22_2 m22_3 m22_4 m22_5 m87_0 m87_1 m88 m96_0 (m96_1 ++ [[AV.i IntKind.i64 m22_0, AV.i IntKind.i64 m22_1, AV.i IntKind.i64 m22_2, AV.i IntKind.i64 m22_3, AV.i IntKind.i64 m22_4, AV.i IntKind.i64 m22_5]]))))) (none)) (none) := by kernel_rfl
theorem rnd6yba (kw kl kt kh t7 t10 t11 t12 t19 m22_1 m22_2 m22_3 m22_4 m22_5 m87_0 m87_1 : Int) (m88 : List (List AV)) (m96_0 : Int) (x : S6yba) : round Try.prog SY4 ro6y L6y lp6yba [false, false, true, true, true, false, false, true, false, false, true, false, true, true, true, true, true, true, true, true, true, true, true, true, true, true, true, true] [(5, none), (6, none), (7, none), (9, none), (10, none), (11, none), (12, none), (14, none), (17, none), (18, none), (19, none), (20, none), (1009601, some 67), (1008800, some 71)] 97 ((fun x => s6yba kw kl kt kh t7 t10 t11 t12 x.t18 t19 x.m22_0 m22_1 m22_2 m22_3 m22_4 m22_5 m87_0 m87_1 m88 m96_0 x.m96_1) x) = toR (fun x => s6yba kw kl kt kh t7 t10 t11 t12 x.t18 t19 x.m22_0 m22_1 m22_2 m22_3 m22_4 m22_5 m87_0 m87_1 m88 m96_0 x.m96_1) (ou6yba kw kl kt kh t7 t10 t11 t12 t19 m22_1 m22_2 m22_3 m22_4 m22_5 m87_0 m87_1 m88 m96_0) (stp6yba kw kl kt kh t7 t10 t11 t12 t19 m22_1 m22_2 m22_3 m22_4 m22_5 m87_0 m87_1 m88 m96_0 x.t18 x.m22_0 x.m96_1) := by
  refine (round6yba _ _ _ _ _ _ _ _ _ _ _ _ _ _ _ _ _ _ _ _ _ ).trans ?_
  unfold stp6yba
  simp only [toR_cond]
  rfl
theorem lokb6yba (kw kl kt kh t7 t10 t11 t12 t18 t19 m22_0 m22_1 m22_2 m22_3 m22_4 m22_5 m87_0 m87_1 : Int) (m88 : List (List AV)) (m96_0 : Int) (m96_1 : List (List AV)) {e : Ex} {s : St} (hch : Chosen (q6yba kw kl kt kh t7 t10 t11 t12 t18 t19 m22_0 m22_1 m22_2 m22_3 m22_4 m22_5 m87_0 m87_1 m88 m96_0 m96_1) e s) : LB Try.prog SY4 ro6y L6y lp6yba [false, false, true, true, true, false, false, true, false, false, true, false, true, true, true, true, true, true, true, true, true, true, true, true, true, true, true, true] [(5, none), (6, none), (7, none), (9, none), (10, none), (11, none), (12, none), (14, none), (17, none), (18, none), (19, none), (20, none), (1009601, some 67), (1008800, some 71)] 97 (s6yba kw kl kt kh t7 t10 t11 t12 t18 t19 m22_0 m22_1 m22_2 m22_3 m22_4 m22_5 m87_0 m87_1 m88 m96_0 m96_1) e s := by
  unfold q6yba at hch
  have main := fun y h => LB_run (x := (⟨t18, m22_0, m96_1⟩ : S6yba)) (y := y) (nb := 97) (fun y => by cases y <;> simp [ou6yba]) (rnd6yba kw kl kt kh t7 t10 t11 t12 t19 m22_1 m22_2 m22_3 m22_4 m22_5 m87_0 m87_1 m88 m96_0) h
  obtain ⟨x, hx, hg, rfl, rfl⟩ := chosen_any hch
  simp only [List.mem_cons, List.not_mem_nil, or_false] at hx
  rcases hx with rfl | rfl
  · exact main _ (is6yba_0 kw kl kt kh t7 t10 t11 t12 t19 m22_1 m22_2 m22_3 m22_4 m22_5 m87_0 m87_1 m88 m96_0 t18 m22_0 m96_1 hg)
  · exact main _ (is6yba_1 kw kl kt kh t7 t10 t11 t12 t19 m22_1 m22_2 m22_3 m22_4 m22_5 m87_0 m87_1 m88 m96_0 t18 m22_0 m96_1 hg)
theorem lok6yba {st : St} {outs : List (Bool × Ex × St)} {e : Ex} {s : St} (hl : l6yba st = some outs) (hch : Chosen outs e s) :
    ∃ keep nb, 0 ≤ nb ∧ LB Try.prog SY4 ro6y L6y lp6yba [false, false, true, true, true, false, false, true, false, false, true, false, true, true, true, true, true, true, true, true, true, true, true, true, true, true, true, true] keep nb st e s := by
  unfold l6yba at hl
  obtain ⟨ls, hno, rfl⟩ := qget_some hl
  have hno := normW_norm hno
  refine ⟨_, _, ?_, .enterQ hno (s2 := s6yba (lI ls 0) (lI ls 1) (lI ls 2) (lI ls 3) (lI ls 4) (lI ls 5) (lI ls 6) (lI ls 7) (lI ls 8) (lI ls 9) (lI ls 10) (lI ls 11) (lI ls 12) (lI ls 13) (lI ls 14) (lI ls 15) (lI ls 16) (lI ls 17) (lLL ls 18) (lI ls 19) (lLL ls 20)) (by kernel_rfl) (lokb6yba _ _ _ _ _ _ _ _ _ _ _ _ _ _ _ _ _ _ _ _ _ hch)⟩
  decide
theorem is6yb_0 (kw kl kt kh t7 t10 t11 t12 m22_1 m22_2 m22_3 m22_4 m22_5 m87_0 m87_1 t18 t19 m22_0 : Int) (m88 : List (List AV)) (h : i6yb_0 kw kl kt kh t7 t10 t11 t12 m22_1 m22_2 m22_3 m22_4 m22_5 m87_0 m87_1 t18 t19 m22_0 m88 = true) : r6yb kw kl kt kh t7 t10 t11 t12 m22_1 m22_2 m22_3 m22_4 m22_5 m87_0 m87_1 t18 t19 m22_0 m88 = some (.x0 (v6yb_0_t7' kw kl kt kh t7 t10 t11 t12 m22_1 m22_2 m22_3 m22_4 m22_5 m87_0 m87_1 t18 t19 m22_0 m88) (v6yb_0_t18 kw kl kt kh t7 t10 t11 t12 m22_1 m22_2 m22_3 m22_4 m22_5 m87_0 m87_1 t18 t19 m22_0 m88) (v6yb_0_t19 kw kl kt kh t7 t10 t11 t12 m22_1 m22_2 m22_3 m22_4 m22_5 m87_0 m87_1 t18 t19 m22_0 m88) (v6yb_0_m22_0 kw kl kt kh t7 t10 t11 t12 m22_1 m22_2 m22_3 m22_4 m22_5 m87_0 m87_1 t18 t19 m22_0 m88) (v6yb_0_m88 kw kl kt kh t7 t10 t11 t12 m22_1 m22_2 m22_3 m22_4 m22_5 m87_0 m87_1 t18 t19 m22_0 m88)) := by
  unfold i6yb_0 at h
  unfold v6yb_0_t7' v6yb_0_t18 v6yb_0_t19 v6yb_0_m22_0 v6yb_0_m88
  generalize r6yb kw kl kt kh t7 t10 t11 t12 m22_1 m22_2 m22_3 m22_4 m22_5 m87_0 m87_1 t18 t19 m22_0 m88 = r at h ⊢
  rcases r with _ | y
  · cases h
  · cases y <;> first | rfl | cases h
theorem is6yb_1 (kw kl kt kh t7 t10 t11 t12 m22_1 m22_2 m22_3 m22_4 m22_5 m87_0 m87_1 t18 t19 m22_0 : Int) (m88 : List (List AV)) (h : i6yb_1 kw kl kt kh t7 t10 t11 t12 m22_1 m22_2 m22_3 m22_4 m22_5 m87_0 m87_1 t18 t19 m22_0 m88 = true) : r6yb kw kl kt kh t7 t10 t11 t12 m22_1 m22_2 m22_3 m22_4 m22_5 m87_0 m87_1 t18 t19 m22_0 m88 = some (.x1 (v6yb_1_t18 kw kl kt kh t7 t10 t11 t12 m22_1 m22_2 m22_3 m22_4 m22_5 m87_0 m87_1 t18 t19 m22_0 m88) (v6yb_1_t19 kw kl kt kh t7 t10 t11 t12 m22_1 m22_2 m22_3 m22_4 m22_5 m87_0 m87_1 t18 t19 m22_0 m88) (v6yb_1_m22_0 kw kl kt kh t7 t10 t11 t12 m22_1 m22_2 m22_3 m22_4 m22_5 m87_0 m87_1 t18 t19 m22_0 m88) (v6yb_1_m88 kw kl kt kh t7 t10 t11 t12 m22_1 m22_2 m22_3 m22_4 m22_5 m87_0 m87_1 t18 t19 m22_0 m88)) := by
  unfold i6yb_1 at h
  unfold v6yb_1_t18 v6yb_1_t19 v6yb_1_m22_0 v6yb_1_m88
  generalize r6yb kw kl kt kh t7 t10 t11 t12 m22_1 m22_2 m22_3 m22_4 m22_5 m87_0 m87_1 t18 t19 m22_0 m88 = r at h ⊢
  rcases r with _ | y
  · cases h
  · cases y <;> first | rfl | cases h
theorem round6yb (kw kl kt kh t7 t10 t11 t12 t18 t19 m22_0 m22_1 m22_2 m22_3 m22_4 m22_5 m87_0 m87_1 : Int) (m88 : List (List AV)) : round Try.prog SY4 ro6y L6y lp6yb [false, true, false, true, true, true, true, true, true, true, true, true, true, true, true, true, true, true, true] [(5, none), (6, none), (7, none), (9, none), (10, none), (11, none), (12, none), (14, none), (17, none), (18, none), (19, none), (1008800, some 71)] 89 (s6yb kw kl kt kh t7 t10 t11 t12 t18 t19 m22_0 m22_1 m22_2 m22_3 m22_4 m22_5 m87_0 m87_1 m88) =
    cond (decide (t19 ≤ m87_1)) (cond ((↑m88.length : Int).tmod 2 == 1) (cond (i6yba_0 kw kl kt kh t7 t10 t11 t12 t19 m22_1 m22_2 m22_3 m22_4 m22_5 m87_0 m87_1 m88 t19 t18 (IntKind.i64.wrap (IntKind.i64.wrap (0 - kt) + IntKind.i64.wrap (t12 - t11))) []) (some (.ret, o6yb_0 kw kl kt kh t7 t10 t11 t12 m22_1 m22_2 m22_3 m22_4 m22_5 m87_0 m87_1 (v6yba_0_t7' kw kl kt kh t7 t10 t11 t12 t19 m22_1 m22_2 m22_3 m22_4 m22_5 m87_0 m87_1 m88 t19 t18 (IntKind.i64.wrap (IntKind.i64.wrap (0 - kt) + IntKind.i64.wrap (t12 - t11))) []) (v6yba_0_t18 kw kl kt kh t7 t10 t11 t12 t19 m22_1 m22_2 m22_3 m22_4 m22_5 m87_0 m87_1 m88 t19 t18 (IntKind.i64.wrap (IntKind.i64.wrap (0 - kt) + IntKind.i64.wrap (t12 - t11))) []) t19 (v6yba_0_m22_0 kw kl kt kh t7 t10 t11 t12 t19 m22_1 m22_2 m22_3 m22_4 m22_5 m87_0 m87_1 m88 t19 t18 (IntKind.i64.wrap (IntKind.i64.wrap (0 - kt) + IntKind.i64.wrap (t12 - t11))) []) m88)) (cond (i6yba_1 kw kl kt kh t7 t10 t11 t12 t19 m22_1 m22_2 m22_3 m22_4 m22_5 m87_0 m87_1 m88 t19 t18 (IntKind.i64.wrap (IntKind.i64.wrap (0 - kt) + IntKind.i64.wrap (t12 - t11))) []) (cond ((m88.length + [[AV.i IntKind.i64 t19, AV.rs 67 (v6yba_1_m96_1 kw kl kt kh t7 t10 t11 t12 t19 m22_1 m22_2 m22_3 m22_4 m22_5 m87_0 m87_1 m88 t19 t18 (IntKind.i64.wrap (IntKind.i64.wrap (0 - kt) + IntKind.i64.wrap (t12 - t11))) [])]].length).ble 9223372036854775807 && true) (cond (((m88.length + [[AV.i IntKind.i64 t19, AV.rs 67 (v6yba_1_m96_1 kw kl kt kh t7 t10 t11 t12 t19 m22_1 m22_2 m22_3 m22_4 m22_5 m87_0 m87_1 m88 t19 t18 (IntKind.i64.wrap (IntKind.i64.wrap (0 - kt) + IntKind.i64.wrap (t12 - t11))) [])]].length) * 32).ble 140737488355328) (cond (decide ((↑(m88 ++ [[AV.i IntKind.i64 t19, AV.rs 67 (v6yba_1_m96_1 kw kl kt kh t7 t10 t11 t12 t19 m22_1 m22_2 m22_3 m22_4 m22_5 m87_0 m87_1 m88 t19 t18 (IntKind.i64.wrap (IntKind.i64.wrap (0 - kt) + IntKind.i64.wrap (t12 - t11))) [])]]).length : Int) > 24)) (some (.ret, o6yb_0 kw kl kt kh t7 t10 t11 t12 m22_1 m22_2 m22_3 m22_4 m22_5 m87_0 m87_1 3 (v6yba_1_t18 kw kl kt kh t7 t10 t11 t12 t19 m22_1 m22_2 m22_3 m22_4 m22_5 m87_0 m87_1 m88 t19 t18 (IntKind.i64.wrap (IntKind.i64.wrap (0 - kt) + IntKind.i64.wrap (t12 - t11))) []) t19 (v6yba_1_m22_0 kw kl kt kh t7 t10 t11 t12 t19 m22_1 m22_2 m22_3 m22_4 m22_5 m87_0 m87_1 m88 t19 t18 (IntKind.i64.wrap (IntKind.i64.wrap (0 - kt) + IntKind.i64.wrap (t12 - t11))) []) (m88 ++ [[AV.i IntKind.i64 t19, AV.rs 67 (v6yba_1_m96_1 kw kl kt kh t7 t10 t11 t12 t19 m22_1 m22_2 m22_3 m22_4 m22_5 m87_0 m87_1 m88 t19 t18 (IntKind.i64.wrap (IntKind.i64.wrap (0 - kt) + IntKind.i64.wrap (t12 - t11))) [])]]))) (some (.nrm, s6yb kw kl kt kh t7 t10 t11 t12 (v6yba_1_t18 kw kl kt kh t7 t10 t11 t12 t19 m22_1 m22_2 m22_3 m22_4 m22_5 m87_0 m87_1 m88 t19 t18 (IntKind.i64.wrap (IntKind.i64.wrap (0 - kt) + IntKind.i64.wrap (t12 - t11))) []) (IntKind.i64.wrap (t19 + t10)) (v6yba_1_m22_0 kw kl kt kh t7 t10 t11 t12 t19 m22_1 m22_2 m22_3 m22_4 m22_5 m87_0 m87_1 m88 t19 t18 (IntKind.i64.wrap (IntKind.i64.wrap (0 - kt) + IntKind.i64.wrap (t12 - t11))) []) m22_1 m22_2 m22_3 m22_4 m22_5 m87_0 m87_1 (m88 ++ [[AV.i IntKind.i64 t19, AV.rs 67 (v6yba_1_m96_1 kw kl kt kh t7 t10 t11 t12 t19 m22_1 m22_2 m22_3 m22_4 m22_5 m87_0 m87_1 m88 t19 t18 (IntKind.i64.wrap (IntKind.i64.wrap (0 - kt) + IntKind.i64.wrap (t12 - t11))) [])]])))) (none)) (none)) (none))) (cond (i6yba_0 kw kl kt kh t7 t10 t11 t12 t19 m22_1 m22_2 m22_3 m22_4 m22_5 m87_0 m87_1 m88 t19 t18 (IntKind.i64.wrap (0 - kt)) []) (some (.ret, o6yb_0 kw kl kt kh t7 t10 t11 t12 m22_1 m22_2 m22_3 m22_4 m22_5 m87_0 m87_1 (v6yba_0_t7' kw kl kt kh t7 t10 t11 t12 t19 m22_1 m22_2 m22_3 m22_4 m22_5 m87_0 m87_1 m88 t19 t18 (IntKind.i64.wrap (0 - kt)) []) (v6yba_0_t18 kw kl kt kh t7 t10 t11 t12 t19 m22_1 m22_2 m22_3 m22_4 m22_5 m87_0 m87_1 m88 t19 t18 (IntKind.i64.wrap (0 - kt)) []) t19 (v6yba_0_m22_0 kw kl kt kh t7 t10 t11 t12 t19 m22_1 m22_2 m22_3 m22_4 m22_5 m87_0 m87_1 m88 t19 t18 (IntKind.i64.wrap (0 - kt)) []) m88)) (cond (i6yba_1 kw kl kt kh t7 t10 t11 t12 t19 m22_1 m22_2 m22_3 m22_4 m22_5 m87_0 m87_1 m88 t19 t18 (IntKind.i64.wrap (0 - kt)) []) (cond ((m88.length + [[AV.i IntKind.i64 t19, AV.rs 67 (v6yba_1_m96_1 kw kl kt kh t7 t10 t11 t12 t19 m22_1 m22_2 m22_3 m22_4 m22_5 m87_0 m87_1 m88 t19 t18 (IntKind.i64.wrap (0 - kt)) [])]].length).ble 9223372036854775807 && true) (cond (((m88.length + [[AV.i IntKind.i64 t19, AV.rs 67 (v6yba_1_m96_1 kw kl kt kh t7 t10 t11 t12 t19 m22_1 m22_2 m22_3 m22_4 m22_5 m87_0 m87_1 m88 t19 t18 (IntKind.i64.wrap (0 - kt)) [])]].length) * 32).ble 140737488355328) (cond (decide ((↑(m88 ++ [[AV.i IntKind.i64 t19, AV.rs 67 (v6yba_1_m96_1 kw kl kt kh t7 t10 t11 t12 t19 m22_1 m22_2 m22_3 m22_4 m22_5 m87_0 m87_1 m88 t19 t18 (IntKind.i64.wrap (0 - kt)) [])]]).length : Int) > 24)) (some (.ret, o6yb_0 kw kl kt kh t7 t10 t11 t12 m22_1 m22_2 m22_3 m22_4 m22_5 m87_0 m87_1 3 (v6yba_1_t18 kw kl kt kh t7 t10 t11 t12 t19 m22_1 m22_2 m22_3 m22_4 m22_5 m87_0 m87_1 m88 t19 t18 (IntKind.i64.wrap (0 - kt)) []) t19 (v6yba_1_m22_0 kw kl kt kh t7 t10 t11 t12 t19 m22_1 m22_2 m22_3 m22_4 m22_5 m87_0 m87_1 m88 t19 t18 (IntKind.i64.wrap (0 - kt)) []) (m88 ++ [[AV.i IntKind.i64 t19, AV.rs 67 (v6yba_1_m96_1 kw kl kt kh t7 t10 t11 t12 t19 m22_1 m22_2 m22_3 m22_4 m22_5 m87_0 m87_1 m88 t19 t18 (IntKind.i64.wrap (0 - kt)) [])]]))) (some (.nrm, s6yb kw kl kt kh t7 t10 t11 t12 (v6yba_1_t18 kw kl kt kh t7 t10 t11 t12 t19 m22_1 m22_2 m22_3 m22_4 m22_5 m87_0 m87_1 m88 t19 t18 (IntKind.i64.wrap (0 - kt)) []) (IntKind.i64.wrap (t19 + t10)) (v6yba_1_m22_0 kw kl kt kh t7 t10 t11 t12 t19 m22_1 m22_2 m22_3 m22_4 m22_5 m87_0 m87_1 m88 t19 t18 (IntKind.i64.wrap (0 - kt)) []) m22_1 m22_2 m22_3 m22_4 m22_5 m87_0 m87_1 (m88 ++ [[AV.i IntKind.i64 t19, AV.rs 67 (v6yba_1_m96_1 kw kl kt kh t7 t10 t11 t12 t19 m22_1 m22_2 m22_3 m22_4 m22_5 m87_0 m87_1 m88 t19 t18 (IntKind.i64.wrap (0 - kt)) [])]])))) (none)) (none)) (none)))) (some (.ext 2, o6yb_1 kw kl kt kh t7 t10 t11 t12 m22_1 m22_2 m22_3 m22_4 m22_5 m87_0 m87_1 t18 t19 m22_0 m88)) := by kernel_rfl
theorem rnd6yb (kw kl kt kh t7 t10 t11 t12 m22_1 m22_2 m22_3 m22_4 m22_5 m87_0 m87_1 : Int) (x : S6yb) : round Try.prog SY4 ro6y L6y lp6yb [false, true, false, true, true, true, true, true, true, true, true, true, true, true, true, true, true, true, true] [(5, none), (6, none), (7, none), (9, none), (10, none), (11, none), (12, none), (14, none), (17, none), (18, none), (19, none), (1008800, some 71)] 89 ((fun x => s6yb kw kl kt kh t7 t10 t11 t12 x.t18 x.t19 x.m22_0 m22_1 m22_2 m22_3 m22_4 m22_5 m87_0 m87_1 x.m88) x) = toR (fun x => s6yb kw kl kt kh t7 t10 t11 t12 x.t18 x.t19 x.m22_0 m22_1 m22_2 m22_3 m22_4 m22_5 m87_0 m87_1 x.m88) (ou6yb kw kl kt kh t7 t10 t11 t12 m22_1 m22_2 m22_3 m22_4 m22_5 m87_0 m87_1) (stp6yb kw kl kt kh t7 t10 t11 t12 m22_1 m22_2 m22_3 m22_4 m22_5 m87_0 m87_1 x.t18 x.t19 x.m22_0 x.m88) := by
  refine (round6yb _ _ _ _ _ _ _ _ _ _ _ _ _ _ _ _ _ _ _ ).trans ?_
  unfold stp6yb
  simp only [toR_cond]
  rfl
theorem lokb6yb (kw kl kt kh t7 t10 t11 t12 t18 t19 m22_0 m22_1 m22_2 m22_3 m22_4 m22_5 m87_0 m87_1 : Int) (m88 : List (List AV)) {e : Ex} {s : St} (hch : Chosen (q6yb kw kl kt kh t7 t10 t11 t12 t18 t19 m22_0 m22_1 m22_2 m22_3 m22_4 m22_5 m87_0 m87_1 m88) e s) : LB Try.prog SY4 ro6y L6y lp6yb [false, true, false, true, true, true, true, true, true, true, true, true, true, true, true, true, true, true, true] [(5, none), (6, none), (7, none), (9, none), (10, none), (11, none), (12, none), (14, none), (17, none), (18, none), (19, none), (1008800, some 71)] 89 (s6yb kw kl kt kh t7 t10 t11 t12 t18 t19 m22_0 m22_1 m22_2 m22_3 m22_4 m22_5 m87_0 m87_1 m88) e s := by
  unfold q6yb at hch
  have main := fun y h => LB_run (x := (⟨t18, t19, m22_0, m88⟩ : S6yb)) (y := y) (nb := 89) (fun y => by cases y <;> simp [ou6yb]) (rnd6yb kw kl kt kh t7 t10 t11 t12 m22_1 m22_2 m22_3 m22_4 m22_5 m87_0 m87_1) h
  obtain ⟨x, hx, hg, rfl, rfl⟩ := chosen_any hch
  simp only [List.mem_cons, List.not_mem_nil, or_false] at hx
  rcases hx with rfl | rfl
  · exact main _ (is6yb_0 kw kl kt kh t7 t10 t11 t12 m22_1 m22_2 m22_3 m22_4 m22_5 m87_0 m87_1 t18 t19 m22_0 m88 hg)
  · exact main _ (is6yb_1 kw kl kt kh t7 t10 t11 t12 m22_1 m22_2 m22_3 m22_4 m22_5 m87_0 m87_1 t18 t19 m22_0 m88 hg)
theorem lok6yb {st : St} {outs : List (Bool × Ex × St)} {e : Ex} {s : St} (hl : l6yb st = some outs) (hch : Chosen outs e s) :
    ∃ keep nb, 0 ≤ nb ∧ LB Try.prog SY4 ro6y L6y lp6yb [false, true, false, true, true, true, true, true, true, true, true, true, true, true, true, true, true, true, true] keep nb st e s := by
  unfold l6yb at hl
  obtain ⟨ls, hno, rfl⟩ := qget_some hl
  have hno := normW_norm hno
  refine ⟨_, _, ?_, .enterQ hno (s2 := s6yb (lI ls 0) (lI ls 1) (lI ls 2) (lI ls 3) (lI ls 4) (lI ls 5) (lI ls 6) (lI ls 7) (lI ls 8) (lI ls 9) (lI ls 10) (lI ls 11) (lI ls 12) (lI ls 13) (lI ls 14) (lI ls 15) (lI ls 16) (lI ls 17) (lLL ls 18)) (by kernel_rfl) (lokb6yb _ _ _ _ _ _ _ _ _ _ _ _ _ _ _ _ _ _ _ hch)⟩
  decide
theorem L6y_ok (q : Pl) (c : Code) (hq : locate c6y q.reverse = some (.loop c)) (st : St) (outs : List (Bool × Ex × St)) (e : Ex) (s : St) (hl : L6y q st = some outs) (hch : Chosen outs e s) :
    ∃ keep nb, 0 ≤ nb ∧ LB Try.prog SY4 ro6y L6y c q keep nb st e s := by
  unfold L6y at hl
  split at hl
  · have : locate c6y ([false, true, false, true, true, true, true, true, true, true, true, true, true, true, true, true] : Pl).reverse = some (.loop lp6ya) := by kernel_rfl
    rw [this] at hq
    cases hq
    exact lok6ya hl hch
  · have : locate c6y ([false, false, true, true, true, false, false, true, false, false, true, false, true, true, true, true, true, true, true, true, true, true, true, true, true, true, true, true] : Pl).reverse = some (.loop lp6yba) := by kernel_rfl
    rw [this] at hq
    cases hq
    exact lok6yba hl hch
  · have : locate c6y ([false, true, false, true, true, true, true, true, true, true, true, true, true, true, true, true, true, true, true] : Pl).reverse = some (.loop lp6yb) := by kernel_rfl
    rw [this] at hq
    cases hq
    exact lok6yb hl hch
  · cases hl
theorem lok6y : LOK Try.prog SY4 ro6y L6y 0 false c6y [] :=
  lok_lo L6y_ok c6y [] false (locate_nil _) (by kernel_rfl)
noncomputable def t6y (os hs : List (List AV)) (ly el eh gl gh sd br ln kw kl kt kh : Int) : Tr ((List (List AV)) × (Int)) :=
  .cn (g14y os hs) (.cn (w14y_0 os hs == 0) (.cn (g15y ly el eh gl gh sd br ln) (.cn (w15y_0 ly el eh gl gh sd br ln == 0) (.cn (g16y 0 kw kl 0 kt kh) (.cn (!w16y_0 0 kw kl 0 kt kh) (.lf ([], 1)) (.cn (w15y_0 ly el eh gl gh sd br ln != 0) (.lf ([], w15y_0 ly el eh gl gh sd br ln)) (.cn (decide (ly = 0)) (.nn) (.cn (decide (bmin gh (IntKind.i64.wrap (kl.tdiv ly)) < gl)) (.lf ([], 9)) (.cn (decide (IntKind.i64.wrap (kw - bmax sd (IntKind.i64.wrap (2 * kt))) < 1)) (.lf ([], 9)) (.cn (decide (IntKind.i64.wrap ((IntKind.i64.wrap (kw - bmax sd (IntKind.i64.wrap (2 * kt)))).tdiv 2) < br)) (.lf ([], 9)) (.cn (decide (bmin eh (IntKind.i64.wrap (IntKind.i64.wrap (0 - IntKind.i64.wrap (ly - 1)) * bmin gh (IntKind.i64.wrap (kl.tdiv ly)))) < el)) (.lf ([], 9)) (.cn (i6ya_0 kw kl kt kh 0 (bmin gh (IntKind.i64.wrap (kl.tdiv ly))) (IntKind.i64.wrap (kw - bmax sd (IntKind.i64.wrap (2 * kt)))) (IntKind.i64.wrap ((IntKind.i64.wrap (kw - bmax sd (IntKind.i64.wrap (2 * kt)))).tdiv 2)) (bmin eh (IntKind.i64.wrap (IntKind.i64.wrap (0 - IntKind.i64.wrap (ly - 1)) * bmin gh (IntKind.i64.wrap (kl.tdiv ly))))) os (↑os.length : Int) 0 kw kl 0 kt kh 0 0 0) (.cn (i6yb_0 kw kl kt kh 0 (bmin gh (IntKind.i64.wrap (kl.tdiv ly))) (IntKind.i64.wrap (kw - bmax sd (IntKind.i64.wrap (2 * kt)))) (IntKind.i64.wrap ((IntKind.i64.wrap (kw - bmax sd (IntKind.i64.wrap (2 * kt)))).tdiv 2)) kw kl 0 kt kh (v6ya_0_m87_0 kw kl kt kh 0 (bmin gh (IntKind.i64.wrap (kl.tdiv ly))) (IntKind.i64.wrap (kw - bmax sd (IntKind.i64.wrap (2 * kt)))) (IntKind.i64.wrap ((IntKind.i64.wrap (kw - bmax sd (IntKind.i64.wrap (2 * kt)))).tdiv 2)) (bmin eh (IntKind.i64.wrap (IntKind.i64.wrap (0 - IntKind.i64.wrap (ly - 1)) * bmin gh (IntKind.i64.wrap (kl.tdiv ly))))) os (↑os.length : Int) 0 kw kl 0 kt kh 0 0 0) (v6ya_0_m87_1 kw kl kt kh 0 (bmin gh (IntKind.i64.wrap (kl.tdiv ly))) (IntKind.i64.wrap (kw - bmax sd (IntKind.i64.wrap (2 * kt)))) (IntKind.i64.wrap ((IntKind.i64.wrap (kw - bmax sd (IntKind.i64.wrap (2 * kt)))).tdiv 2)) (bmin eh (IntKind.i64.wrap (IntKind.i64.wrap (0 - IntKind.i64.wrap (ly - 1)) * bmin gh (IntKind.i64.wrap (kl.tdiv ly))))) os (↑os.length : Int) 0 kw kl 0 kt kh 0 0 0) 0 (bmin eh (IntKind.i64.wrap (IntKind.i64.wrap (0 - IntKind.i64.wrap (ly - 1)) * bmin gh (IntKind.i64.wrap (kl.tdiv ly))))) 0 []) (.lf ([], v6yb_0_t7' kw kl kt kh 0 (bmin gh (IntKind.i64.wrap (kl.tdiv ly))) (IntKind.i64.wrap (kw - bmax sd (IntKind.i64.wrap (2 * kt)))) (IntKind.i64.wrap ((IntKind.i64.wrap (kw - bmax sd (IntKind.i64.wrap (2 * kt)))).tdiv 2)) kw kl 0 kt kh (v6ya_0_m87_0 kw kl kt kh 0 (bmin gh (IntKind.i64.wrap (kl.tdiv ly))) (IntKind.i64.wrap (kw - bmax sd (IntKind.i64.wrap (2 * kt)))) (IntKind.i64.wrap ((IntKind.i64.wrap (kw - bmax sd (IntKind.i64.wrap (2 * kt)))).tdiv 2)) (bmin eh (IntKind.i64.wrap (IntKind.i64.wrap (0 - IntKind.i64.wrap (ly - 1)) * bmin gh (IntKind.i64.wrap (kl.tdiv ly))))) os (↑os.length : Int) 0 kw kl 0 kt kh 0 0 0) (v6ya_0_m87_1 kw kl kt kh 0 (bmin gh (IntKind.i64.wrap (kl.tdiv ly))) (IntKind.i64.wrap (kw - bmax sd (IntKind.i64.wrap (2 * kt)))) (IntKind.i64.wrap ((IntKind.i64.wrap (kw - bmax sd (IntKind.i64.wrap (2 * kt)))).tdiv 2)) (bmin eh (IntKind.i64.wrap (IntKind.i64.wrap (0 - IntKind.i64.wrap (ly - 1)) * bmin gh (IntKind.i64.wrap (kl.tdiv ly))))) os (↑os.length : Int) 0 kw kl 0 kt kh 0 0 0) 0 (bmin eh (IntKind.i64.wrap (IntKind.i64.wrap (0 - IntKind.i64.wrap (ly - 1)) * bmin gh (IntKind.i64.wrap (kl.tdiv ly))))) 0 [])) (.cn (i6yb_1 kw kl kt kh 0 (bmin gh (IntKind.i64.wrap (kl.tdiv ly))) (IntKind.i64.wrap (kw - bmax sd (IntKind.i64.wrap (2 * kt)))) (IntKind.i64.wrap ((IntKind.i64.wrap (kw - bmax sd (IntKind.i64.wrap (2 * kt)))).tdiv 2)) kw kl 0 kt kh (v6ya_0_m87_0 kw kl kt kh 0 (bmin gh (IntKind.i64.wrap (kl.tdiv ly))) (IntKind.i64.wrap (kw - bmax sd (IntKind.i64.wrap (2 * kt)))) (IntKind.i64.wrap ((IntKind.i64.wrap (kw - bmax sd (IntKind.i64.wrap (2 * kt)))).tdiv 2)) (bmin eh (IntKind.i64.wrap (IntKind.i64.wrap (0 - IntKind.i64.wrap (ly - 1)) * bmin gh (IntKind.i64.wrap (kl.tdiv ly))))) os (↑os.length : Int) 0 kw kl 0 kt kh 0 0 0) (v6ya_0_m87_1 kw kl kt kh 0 (bmin gh (IntKind.i64.wrap (kl.tdiv ly))) (IntKind.i64.wrap (kw - bmax sd (IntKind.i64.wrap (2 * kt)))) (IntKind.i64.wrap ((IntKind.i64.wrap (kw - bmax sd (IntKind.i64.wrap (2 * kt)))).tdiv 2)) (bmin eh (IntKind.i64.wrap (IntKind.i64.wrap (0 - IntKind.i64.wrap (ly - 1)) * bmin gh (IntKind.i64.wrap (kl.tdiv ly))))) os (↑os.length : Int) 0 kw kl 0 kt kh 0 0 0) 0 (bmin eh (IntKind.i64.wrap (IntKind.i64.wrap (0 - IntKind.i64.wrap (ly - 1)) * bmin gh (IntKind.i64.wrap (kl.tdiv ly))))) 0 []) (.lf (v6yb_1_m88 kw kl kt kh 0 (bmin gh (IntKind.i64.wrap (kl.tdiv ly))) (IntKind.i64.wrap (kw - bmax sd (IntKind.i64.wrap (2 * kt)))) (IntKind.i64.wrap ((IntKind.i64.wrap (kw - bmax sd (IntKind.i64.wrap (2 * kt)))).tdiv 2)) kw kl 0 kt kh (v6ya_0_m87_0 kw kl kt kh 0 (bmin gh (IntKind.i64.wrap (kl.tdiv ly))) (IntKind.i64.wrap (kw - bmax sd (IntKind.i64.wrap (2 * kt)))) (IntKind.i64.wrap ((IntKind.i64.wrap (kw - bmax sd (IntKind.i64.wrap (2 * kt)))).tdiv 2)) (bmin eh (IntKind.i64.wrap (IntKind.i64.wrap (0 - IntKind.i64.wrap (ly - 1)) * bmin gh (IntKind.i64.wrap (kl.tdiv ly))))) os (↑os.length : Int) 0 kw kl 0 kt kh 0 0 0) (v6ya_0_m87_1 kw kl kt kh 0 (bmin gh (IntKind.i64.wrap (kl.tdiv ly))) (IntKind.i64.wrap (kw - bmax sd (IntKind.i64.wrap (2 * kt)))) (IntKind.i64.wrap ((IntKind.i64.wrap (kw - bmax sd (IntKind.i64.wrap (2 * kt)))).tdiv 2)) (bmin eh (IntKind.i64.wrap (IntKind.i64.wrap (0 - IntKind.i64.wrap (ly - 1)) * bmin gh (IntKind.i64.wrap (kl.tdiv ly))))) os (↑os.length : Int) 0 kw kl 0 kt kh 0 0 0) 0 (bmin eh (IntKind.i64.wrap (IntKind.i64.wrap (0 - IntKind.i64.wrap (ly - 1)) * bmin gh (IntKind.i64.wrap (kl.tdiv ly))))) 0 [], 0)) (.nn))) (.nn))))))))) (.nn)) (.cn (w15y_0 ly el eh gl gh sd br ln != 0) (.lf ([], w15y_0 ly el eh gl gh sd br ln)) (.cn (decide (ly = 0)) (.nn) (.cn (decide (bmin gh (IntKind.i64.wrap (kl.tdiv ly)) < gl)) (.lf ([], 9)) (.cn (decide (IntKind.i64.wrap (kw - bmax sd (IntKind.i64.wrap (2 * kt))) < 1)) (.lf ([], 9)) (.cn (decide (IntKind.i64.wrap ((IntKind.i64.wrap (kw - bmax sd (IntKind.i64.wrap (2 * kt)))).tdiv 2) < br)) (.lf ([], 9)) (.cn (decide (bmin eh (IntKind.i64.wrap (IntKind.i64.wrap (0 - IntKind.i64.wrap (ly - 1)) * bmin gh (IntKind.i64.wrap (kl.tdiv ly)))) < el)) (.lf ([], 9)) (.cn (i6ya_0 kw kl kt kh 0 (bmin gh (IntKind.i64.wrap (kl.tdiv ly))) (IntKind.i64.wrap (kw - bmax sd (IntKind.i64.wrap (2 * kt)))) (IntKind.i64.wrap ((IntKind.i64.wrap (kw - bmax sd (IntKind.i64.wrap (2 * kt)))).tdiv 2)) (bmin eh (IntKind.i64.wrap (IntKind.i64.wrap (0 - IntKind.i64.wrap (ly - 1)) * bmin gh (IntKind.i64.wrap (kl.tdiv ly))))) os (↑os.length : Int) 0 kw kl 0 kt kh 0 0 0) (.cn (i6yb_0 kw kl kt kh 0 (bmin gh (IntKind.i64.wrap (kl.tdiv ly))) (IntKind.i64.wrap (kw - bmax sd (IntKind.i64.wrap (2 * kt)))) (IntKind.i64.wrap ((IntKind.i64.wrap (kw - bmax sd (IntKind.i64.wrap (2 * kt)))).tdiv 2)) kw kl 0 kt kh (v6ya_0_m87_0 kw kl kt kh 0 (bmin gh (IntKind.i64.wrap (kl.tdiv ly))) (IntKind.i64.wrap (kw - bmax sd (IntKind.i64.wrap (2 * kt)))) (IntKind.i64.wrap ((IntKind.i64.wrap (kw - bmax sd (IntKind.i64.wrap (2 * kt)))).tdiv 2)) (bmin eh (IntKind.i64.wrap (IntKind.i64.wrap (0 - IntKind.i64.wrap (ly - 1)) * bmin gh (IntKind.i64.wrap (kl.tdiv ly))))) os (↑os.length : Int) 0 kw kl 0 kt kh 0 0 0) (v6ya_0_m87_1 kw kl kt kh 0 (bmin gh (IntKind.i64.wrap (kl.tdiv ly))) (IntKind.i64.wrap (kw - bmax sd (IntKind.i64.wrap (2 * kt)))) (IntKind.i64.wrap ((IntKind.i64.wrap (kw - bmax sd (IntKind.i64.wrap (2 * kt)))).tdiv 2)) (bmin eh (IntKind.i64.wrap (IntKind.i64.wrap (0 - IntKind.i64.wrap (ly - 1)) * bmin gh (IntKind.i64.wrap (kl.tdiv ly))))) os (↑os.length : Int) 0 kw kl 0 kt kh 0 0 0) 0 (bmin eh (IntKind.i64.wrap (IntKind.i64.wrap (0 - IntKind.i64.wrap (ly - 1)) * bmin gh (IntKind.i64.wrap (kl.tdiv ly))))) 0 []) (.lf ([], v6yb_0_t7' kw kl kt kh 0 (bmin gh (IntKind.i64.wrap (kl.tdiv ly))) (IntKind.i64.wrap (kw - bmax sd (IntKind.i64.wrap (2 * kt)))) (IntKind.i64.wrap ((IntKind.i64.wrap (kw - bmax sd (IntKind.i64.wrap (2 * kt)))).tdiv 2)) kw kl 0 kt kh (v6ya_0_m87_0 kw kl kt kh 0 (bmin gh (IntKind.i64.wrap (kl.tdiv ly))) (IntKind.i64.wrap (kw - bmax sd (IntKind.i64.wrap (2 * kt)))) (IntKind.i64.wrap ((IntKind.i64.wrap (kw - bmax sd (IntKind.i64.wrap (2 * kt)))).tdiv 2)) (bmin eh (IntKind.i64.wrap (IntKind.i64.wrap (0 - IntKind.i64.wrap (ly - 1)) * bmin gh (IntKind.i64.wrap (kl.tdiv ly))))) os (↑os.length : Int) 0 kw kl 0 kt kh 0 0 0) (v6ya_0_m87_1 kw kl kt kh 0 (bmin gh (IntKind.i64.wrap (kl.tdiv ly))) (IntKind.i64.wrap (kw - bmax sd (IntKind.i64.wrap (2 * kt)))) (IntKind.i64.wrap ((IntKind.i64.wrap (kw - bmax sd (IntKind.i64.wrap (2 * kt)))).tdiv 2)) (bmin eh (IntKind.i64.wrap (IntKind.i64.wrap (0 - IntKind.i64.wrap (ly - 1)) * bmin gh (IntKind.i64.wrap (kl.tdiv ly))))) os (↑os.length : Int) 0 kw kl 0 kt kh 0 0 0) 0 (bmin eh (IntKind.i64.wrap (IntKind.i64.wrap (0 - IntKind.i64.wrap (ly - 1)) * bmin gh (IntKind.i64.wrap (kl.tdiv ly))))) 0 [])) (.cn (i6yb_1 kw kl kt kh 0 (bmin gh (IntKind.i64.wrap (kl.tdiv ly))) (IntKind.i64.wrap (kw - bmax sd (IntKind.i64.wrap (2 * kt)))) (IntKind.i64.wrap ((IntKind.i64.wrap (kw - bmax sd (IntKind.i64.wrap (2 * kt)))).tdiv 2)) kw kl 0 kt kh (v6ya_0_m87_0 kw kl kt kh 0 (bmin gh (IntKind.i64.wrap (kl.tdiv ly))) (IntKind.i64.wrap (kw - bmax sd (IntKind.i64.wrap (2 * kt)))) (IntKind.i64.wrap ((IntKind.i64.wrap (kw - bmax sd (IntKind.i64.wrap (2 * kt)))).tdiv 2)) (bmin eh (IntKind.i64.wrap (IntKind.i64.wrap (0 - IntKind.i64.wrap (ly - 1)) * bmin gh (IntKind.i64.wrap (kl.tdiv ly))))) os (↑os.length : Int) 0 kw kl 0 kt kh 0 0 0) (v6ya_0_m87_1 kw kl kt kh 0 (bmin gh (IntKind.i64.wrap (kl.tdiv ly))) (IntKind.i64.wrap (kw - bmax sd (IntKind.i64.wrap (2 * kt)))) (IntKind.i64.wrap ((IntKind.i64.wrap (kw - bmax sd (IntKind.i64.wrap (2 * kt)))).tdiv 2)) (bmin eh (IntKind.i64.wrap (IntKind.i64.wrap (0 - IntKind.i64.wrap (ly - 1)) * bmin gh (IntKind.i64.wrap (kl.tdiv ly))))) os (↑os.length : Int) 0 kw kl 0 kt kh 0 0 0) 0 (bmin eh (IntKind.i64.wrap (IntKind.i64.wrap (0 - IntKind.i64.wrap (ly - 1)) * bmin gh (IntKind.i64.wrap (kl.tdiv ly))))) 0 []) (.lf (v6yb_1_m88 kw kl kt kh 0 (bmin gh (IntKind.i64.wrap (kl.tdiv ly))) (IntKind.i64.wrap (kw - bmax sd (IntKind.i64.wrap (2 * kt)))) (IntKind.i64.wrap ((IntKind.i64.wrap (kw - bmax sd (IntKind.i64.wrap (2 * kt)))).tdiv 2)) kw kl 0 kt kh (v6ya_0_m87_0 kw kl kt kh 0 (bmin gh (IntKind.i64.wrap (kl.tdiv ly))) (IntKind.i64.wrap (kw - bmax sd (IntKind.i64.wrap (2 * kt)))) (IntKind.i64.wrap ((IntKind.i64.wrap (kw - bmax sd (IntKind.i64.wrap (2 * kt)))).tdiv 2)) (bmin eh (IntKind.i64.wrap (IntKind.i64.wrap (0 - IntKind.i64.wrap (ly - 1)) * bmin gh (IntKind.i64.wrap (kl.tdiv ly))))) os (↑os.length : Int) 0 kw kl 0 kt kh 0 0 0) (v6ya_0_m87_1 kw kl kt kh 0 (bmin gh (IntKind.i64.wrap (kl.tdiv ly))) (IntKind.i64.wrap (kw - bmax sd (IntKind.i64.wrap (2 * kt)))) (IntKind.i64.wrap ((IntKind.i64.wrap (kw - bmax sd (IntKind.i64.wrap (2 * kt)))).tdiv 2)) (bmin eh (IntKind.i64.wrap (IntKind.i64.wrap (0 - IntKind.i64.wrap (ly - 1)) * bmin gh (IntKind.i64.wrap (kl.tdiv ly))))) os (↑os.length : Int) 0 kw kl 0 kt kh 0 0 0) 0 (bmin eh (IntKind.i64.wrap (IntKind.i64.wrap (0 - IntKind.i64.wrap (ly - 1)) * bmin gh (IntKind.i64.wrap (kl.tdiv ly))))) 0 [], 0)) (.nn))) (.nn))))))))) (.nn)) (.cn (w14y_0 os hs == 0) (.cn (g16y 0 kw kl 0 kt kh) (.cn (!w16y_0 0 kw kl 0 kt kh) (.lf ([], 1)) (.cn (w14y_0 os hs != 0) (.lf ([], w14y_0 os hs)) (.cn (decide (ly = 0)) (.nn) (.cn (decide (bmin gh (IntKind.i64.wrap (kl.tdiv ly)) < gl)) (.lf ([], 9)) (.cn (decide (IntKind.i64.wrap (kw - bmax sd (IntKind.i64.wrap (2 * kt))) < 1)) (.lf ([], 9)) (.cn (decide (IntKind.i64.wrap ((IntKind.i64.wrap (kw - bmax sd (IntKind.i64.wrap (2 * kt)))).tdiv 2) < br)) (.lf ([], 9)) (.cn (decide (bmin eh (IntKind.i64.wrap (IntKind.i64.wrap (0 - IntKind.i64.wrap (ly - 1)) * bmin gh (IntKind.i64.wrap (kl.tdiv ly)))) < el)) (.lf ([], 9)) (.nn)))))))) (.nn)) (.cn (w14y_0 os hs != 0) (.lf ([], w14y_0 os hs)) (.cn (decide (ly = 0)) (.nn) (.cn (decide (bmin gh (IntKind.i64.wrap (kl.tdiv ly)) < gl)) (.lf ([], 9)) (.cn (decide (IntKind.i64.wrap (kw - bmax sd (IntKind.i64.wrap (2 * kt))) < 1)) (.lf ([], 9)) (.cn (decide (IntKind.i64.wrap ((IntKind.i64.wrap (kw - bmax sd (IntKind.i64.wrap (2 * kt)))).tdiv 2) < br)) (.lf ([], 9)) (.cn (decide (bmin eh (IntKind.i64.wrap (IntKind.i64.wrap (0 - IntKind.i64.wrap (ly - 1)) * bmin gh (IntKind.i64.wrap (kl.tdiv ly)))) < el)) (.lf ([], 9)) (.nn))))))))) (.nn)
noncomputable def g6y (os hs : List (List AV)) (ly el eh gl gh sd br ln kw kl kt kh : Int) : Bool := (t6y os hs ly el eh gl gh sd br ln kw kl kt kh).g
noncomputable def w6y_0 (os hs : List (List AV)) (ly el eh gl gh sd br ln kw kl kt kh : Int) : List (List AV) := (t6y os hs ly el eh gl gh sd br ln kw kl kt kh).val.1
noncomputable def w6y_1 (os hs : List (List AV)) (ly el eh gl gh sd br ln kw kl kt kh : Int) : Int := (t6y os hs ly el eh gl gh sd br ln kw kl kt kh).val.2
noncomputable def a6y (os hs : List (List AV)) (ly el eh gl gh sd br ln kw kl kt kh : Int) : Tr AV :=
  .cn (g14y os hs) (.cn (w14y_0 os hs == 0) (.cn (g15y ly el eh gl gh sd br ln) (.cn (w15y_0 ly el eh gl gh sd br ln == 0) (.cn (g16y 0 kw kl 0 kt kh) (.cn (!w16y_0 0 kw kl 0 kt kh) (.lf (.tup [.agg [.nl], .i .i64 1])) (.cn (w15y_0 ly el eh gl gh sd br ln != 0) (.lf (.tup [.agg [.nl], .i .i64 (w15y_0 ly el eh gl gh sd br ln)])) (.cn (decide (ly = 0)) (.nn) (.cn (decide (bmin gh (IntKind.i64.wrap (kl.tdiv ly)) < gl)) (.lf (.tup [.agg [.nl], .i .i64 9])) (.cn (decide (IntKind.i64.wrap (kw - bmax sd (IntKind.i64.wrap (2 * kt))) < 1)) (.lf (.tup [.agg [.nl], .i .i64 9])) (.cn (decide (IntKind.i64.wrap ((IntKind.i64.wrap (kw - bmax sd (IntKind.i64.wrap (2 * kt)))).tdiv 2) < br)) (.lf (.tup [.agg [.nl], .i .i64 9])) (.cn (decide (bmin eh (IntKind.i64.wrap (IntKind.i64.wrap (0 - IntKind.i64.wrap (ly - 1)) * bmin gh (IntKind.i64.wrap (kl.tdiv ly)))) < el)) (.lf (.tup [.agg [.nl], .i .i64 9])) (.cn (i6ya_0 kw kl kt kh 0 (bmin gh (IntKind.i64.wrap (kl.tdiv ly))) (IntKind.i64.wrap (kw - bmax sd (IntKind.i64.wrap (2 * kt)))) (IntKind.i64.wrap ((IntKind.i64.wrap (kw - bmax sd (IntKind.i64.wrap (2 * kt)))).tdiv 2)) (bmin eh (IntKind.i64.wrap (IntKind.i64.wrap (0 - IntKind.i64.wrap (ly - 1)) * bmin gh (IntKind.i64.wrap (kl.tdiv ly))))) os (↑os.length : Int) 0 kw kl 0 kt kh 0 0 0) (.cn (i6yb_0 kw kl kt kh 0 (bmin gh (IntKind.i64.wrap (kl.tdiv ly))) (IntKind.i64.wrap (kw - bmax sd (IntKind.i64.wrap (2 * kt)))) (IntKind.i64.wrap ((IntKind.i64.wrap (kw - bmax sd (IntKind.i64.wrap (2 * kt)))).tdiv 2)) kw kl 0 kt kh (v6ya_0_m87_0 kw kl kt kh 0 (bmin gh (IntKind.i64.wrap (kl.tdiv ly))) (IntKind.i64.wrap (kw - bmax sd (IntKind.i64.wrap (2 * kt)))) (IntKind.i64.wrap ((IntKind.i64.wrap (kw - bmax sd (IntKind.i64.wrap (2 * kt)))).tdiv 2)) (bmin eh (IntKind.i64.wrap (IntKind.i64.wrap (0 - IntKind.i64.wrap (ly - 1)) * bmin gh (IntKind.i64.wrap (kl.tdiv ly))))) os (↑os.length : Int) 0 kw kl 0 kt kh 0 0 0) (v6ya_0_m87_1 kw kl kt kh 0 (bmin gh (IntKind.i64.wrap (kl.tdiv ly))) (IntKind.i64.wrap (kw - bmax sd (IntKind.i64.wrap (2 * kt)))) (IntKind.i64.wrap ((IntKind.i64.wrap (kw - bmax sd (IntKind.i64.wrap (2 * kt)))).tdiv 2)) (bmin eh (IntKind.i64.wrap (IntKind.i64.wrap (0 - IntKind.i64.wrap (ly - 1)) * bmin gh (IntKind.i64.wrap (kl.tdiv ly))))) os (↑os.length : Int) 0 kw kl 0 kt kh 0 0 0) 0 (bmin eh (IntKind.i64.wrap (IntKind.i64.wrap (0 - IntKind.i64.wrap (ly - 1)) * bmin gh (IntKind.i64.wrap (kl.tdiv ly))))) 0 []) (.lf (.tup [.agg [.nl], .i .i64 (v6yb_0_t7' kw kl kt kh 0 (bmin gh (IntKind.i64.wrap (kl.tdiv ly))) (IntKind.i64.wrap (kw - bmax sd (IntKind.i64.wrap (2 * kt)))) (IntKind.i64.wrap ((IntKind.i64.wrap (kw - bmax sd (IntKind.i64.wrap (2 * kt)))).tdiv 2)) kw kl 0 kt kh (v6ya_0_m87_0 kw kl kt kh 0 (bmin gh (IntKind.i64.wrap (kl.tdiv ly))) (IntKind.i64.wrap (kw - bmax sd (IntKind.i64.wrap (2 * kt)))) (IntKind.i64.wrap ((IntKind.i64.wrap (kw - bmax sd (IntKind.i64.wrap (2 * kt)))).tdiv 2)) (bmin eh (IntKind.i64.wrap (IntKind.i64.wrap (0 - IntKind.i64.wrap (ly - 1)) * bmin gh (IntKind.i64.wrap (kl.tdiv ly))))) os (↑os.length : Int) 0 kw kl 0 kt kh 0 0 0) (v6ya_0_m87_1 kw kl kt kh 0 (bmin gh (IntKind.i64.wrap (kl.tdiv ly))) (IntKind.i64.wrap (kw - bmax sd (IntKind.i64.wrap (2 * kt)))) (IntKind.i64.wrap ((IntKind.i64.wrap (kw - bmax sd (IntKind.i64.wrap (2 * kt)))).tdiv 2)) (bmin eh (IntKind.i64.wrap (IntKind.i64.wrap (0 - IntKind.i64.wrap (ly - 1)) * bmin gh (IntKind.i64.wrap (kl.tdiv ly))))) os (↑os.length : Int) 0 kw kl 0 kt kh 0 0 0) 0 (bmin eh (IntKind.i64.wrap (IntKind.i64.wrap (0 - IntKind.i64.wrap (ly - 1)) * bmin gh (IntKind.i64.wrap (kl.tdiv ly))))) 0 [])])) (.cn (i6yb_1 kw kl kt kh 0 (bmin gh (IntKind.i64.wrap (kl.tdiv ly))) (IntKind.i64.wrap (kw - bmax sd (IntKind.i64.wrap (2 * kt)))) (IntKind.i64.wrap ((IntKind.i64.wrap (kw - bmax sd (IntKind.i64.wrap (2 * kt)))).tdiv 2)) kw kl 0 kt kh (v6ya_0_m87_0 kw kl kt kh 0 (bmin gh (IntKind.i64.wrap (kl.tdiv ly))) (IntKind.i64.wrap (kw - bmax sd (IntKind.i64.wrap (2 * kt)))) (IntKind.i64.wrap ((IntKind.i64.wrap (kw - bmax sd (IntKind.i64.wrap (2 * kt)))).tdiv 2)) (bmin eh (IntKind.i64.wrap (IntKind.i64.wrap (0 - IntKind.i64.wrap (ly - 1)) * bmin gh (IntKind.i64.wrap (kl.tdiv ly))))) os (↑os.length : Int) 0 kw kl 0 kt kh 0 0 0) (v6ya_0_m87_1 kw kl kt kh 0 (bmin gh (IntKind.i64.wrap (kl.tdiv ly))) (IntKind.i64.wrap (kw - bmax sd (IntKind.i64.wrap (2 * kt)))) (IntKind.i64.wrap ((IntKind.i64.wrap (kw - bmax sd (IntKind.i64.wrap (2 * kt)))).tdiv 2)) (bmin eh (IntKind.i64.wrap (IntKind.i64.wrap (0 - IntKind.i64.wrap (ly - 1)) * bmin gh (IntKind.i64.wrap (kl.tdiv ly))))) os (↑os.length : Int) 0 kw kl 0 kt kh 0 0 0) 0 (bmin eh (IntKind.i64.wrap (IntKind.i64.wrap (0 - IntKind.i64.wrap (ly - 1)) * bmin gh (IntKind.i64.wrap (kl.tdiv ly))))) 0 []) (.lf (.tup [.agg [.rs 71 (v6yb_1_m88 kw kl kt kh 0 (bmin gh (IntKind.i64.wrap (kl.tdiv ly))) (IntKind.i64.wrap (kw - bmax sd (IntKind.i64.wrap (2 * kt)))) (IntKind.i64.wrap ((IntKind.i64.wrap (kw - bmax sd (IntKind.i64.wrap (2 * kt)))).tdiv 2)) kw kl 0 kt kh (v6ya_0_m87_0 kw kl kt kh 0 (bmin gh (IntKind.i64.wrap (kl.tdiv ly))) (IntKind.i64.wrap (kw - bmax sd (IntKind.i64.wrap (2 * kt)))) (IntKind.i64.wrap ((IntKind.i64.wrap (kw - bmax sd (IntKind.i64.wrap (2 * kt)))).tdiv 2)) (bmin eh (IntKind.i64.wrap (IntKind.i64.wrap (0 - IntKind.i64.wrap (ly - 1)) * bmin gh (IntKind.i64.wrap (kl.tdiv ly))))) os (↑os.length : Int) 0 kw kl 0 kt kh 0 0 0) (v6ya_0_m87_1 kw kl kt kh 0 (bmin gh (IntKind.i64.wrap (kl.tdiv ly))) (IntKind.i64.wrap (kw - bmax sd (IntKind.i64.wrap (2 * kt)))) (IntKind.i64.wrap ((IntKind.i64.wrap (kw - bmax sd (IntKind.i64.wrap (2 * kt)))).tdiv 2)) (bmin eh (IntKind.i64.wrap (IntKind.i64.wrap (0 - IntKind.i64.wrap (ly - 1)) * bmin gh (IntKind.i64.wrap (kl.tdiv ly))))) os (↑os.length : Int) 0 kw kl 0 kt kh 0 0 0) 0 (bmin eh (IntKind.i64.wrap (IntKind.i64.wrap (0 - IntKind.i64.wrap (ly - 1)) * bmin gh (IntKind.i64.wrap (kl.tdiv ly))))) 0 [])], .i .i64 0])) (.nn))) (.nn))))))))) (.nn)) (.cn (w15y_0 ly el eh gl gh sd br ln != 0) (.lf (.tup [.agg [.nl], .i .i64 (w15y_0 ly el eh gl gh sd br ln)])) (.cn (decide (ly = 0)) (.nn) (.cn (decide (bmin gh (IntKind.i64.wrap (kl.tdiv ly)) < gl)) (.lf (.tup [.agg [.nl], .i .i64 9])) (.cn (decide (IntKind.i64.wrap (kw - bmax sd (IntKind.i64.wrap (2 * kt))) < 1)) (.lf (.tup [.agg [.nl], .i .i64 9])) (.cn (decide (IntKind.i64.wrap ((IntKind.i64.wrap (kw - bmax sd (IntKind.i64.wrap (2 * kt)))).tdiv 2) < br)) (.lf (.tup [.agg [.nl], .i .i64 9])) (.cn (decide (bmin eh (IntKind.i64.wrap (IntKind.i64.wrap (0 - IntKind.i64.wrap (ly - 1)) * bmin gh (IntKind.i64.wrap (kl.tdiv ly)))) < el)) (.lf (.tup [.agg [.nl], .i .i64 9])) (.cn (i6ya_0 kw kl kt kh 0 (bmin gh (IntKind.i64.wrap (kl.tdiv ly))) (IntKind.i64.wrap (kw - bmax sd (IntKind.i64.wrap (2 * kt)))) (IntKind.i64.wrap ((IntKind.i64.wrap (kw - bmax sd (IntKind.i64.wrap (2 * kt)))).tdiv 2)) (bmin eh (IntKind.i64.wrap (IntKind.i64.wrap (0 - IntKind.i64.wrap (ly - 1)) * bmin gh (IntKind.i64.wrap (kl.tdiv ly))))) os (↑os.length : Int) 0 kw kl 0 kt kh 0 0 0) (.cn (i6yb_0 kw kl kt kh 0 (bmin gh (IntKind.i64.wrap (kl.tdiv ly))) (IntKind.i64.wrap (kw - bmax sd (IntKind.i64.wrap (2 * kt)))) (IntKind.i64.wrap ((IntKind.i64.wrap (kw - bmax sd (IntKind.i64.wrap (2 * kt)))).tdiv 2)) kw kl 0 kt kh (v6ya_0_m87_0 kw kl kt kh 0 (bmin gh (IntKind.i64.wrap (kl.tdiv ly))) (IntKind.i64.wrap (kw - bmax sd (IntKind.i64.wrap (2 * kt)))) (IntKind.i64.wrap ((IntKind.i64.wrap (kw - bmax sd (IntKind.i64.wrap (2 * kt)))).tdiv 2)) (bmin eh (IntKind.i64.wrap (IntKind.i64.wrap (0 - IntKind.i64.wrap (ly - 1)) * bmin gh (IntKind.i64.wrap (kl.tdiv ly))))) os (↑os.length : Int) 0 kw kl 0 kt kh 0 0 0) (v6ya_0_m87_1 kw kl kt kh 0 (bmin gh (IntKind.i64.wrap (kl.tdiv ly))) (IntKind.i64.wrap (kw - bmax sd (IntKind.i64.wrap (2 * kt)))) (IntKind.i64.wrap ((IntKind.i64.wrap (kw - bmax sd (IntKind.i64.wrap (2 * kt)))).tdiv 2)) (bmin eh (IntKind.i64.wrap (IntKind.i64.wrap (0 - IntKind.i64.wrap (ly - 1)) * bmin gh (IntKind.i64.wrap (kl.tdiv ly))))) os (↑os.length : Int) 0 kw kl 0 kt kh 0 0 0) 0 (bmin eh (IntKind.i64.wrap (IntKind.i64.wrap (0 - IntKind.i64.wrap (ly - 1)) * bmin gh (IntKind.i64.wrap (kl.tdiv ly))))) 0 []) (.lf (.tup [.agg [.nl], .i .i64 (v6yb_0_t7' kw kl kt kh 0 (bmin gh (IntKind.i64.wrap (kl.tdiv ly))) (IntKind.i64.wrap (kw - bmax sd (IntKind.i64.wrap (2 * kt)))) (IntKind.i64.wrap ((IntKind.i64.wrap (kw - bmax sd (IntKind.i64.wrap (2 * kt)))).tdiv 2)) kw kl 0 kt kh (v6ya_0_m87_0 kw kl kt kh 0 (bmin gh (IntKind.i64.wrap (kl.tdiv ly))) (IntKind.i64.wrap (kw - bmax sd (IntKind.i64.wrap (2 * kt)))) (IntKind.i64.wrap ((IntKind.i64.wrap (kw - bmax sd (IntKind.i64.wrap (2 * kt)))).tdiv 2)) (bmin eh (IntKind.i64.wrap (IntKind.i64.wrap (0 - IntKind.i64.wrap (ly - 1)) * bmin gh (IntKind.i64.wrap (kl.tdiv ly))))) os (↑os.length : Int) 0 kw kl 0 kt kh 0 0 0) (v6ya_0_m87_1 kw kl kt kh 0 (bmin gh (IntKind.i64.wrap (kl.tdiv ly))) (IntKind.i64.wrap (kw - bmax sd (IntKind.i64.wrap (2 * kt)))) (IntKind.i64.wrap ((IntKind.i64.wrap (kw - bmax sd (IntKind.i64.wrap (2 * kt)))).tdiv 2)) (bmin eh (IntKind.i64.wrap (IntKind.i64.wrap (0 - IntKind.i64.wrap (ly - 1)) * bmin gh (IntKind.i64.wrap (kl.tdiv ly))))) os (↑os.length : Int) 0 kw kl 0 kt kh 0 0 0) 0 (bmin eh (IntKind.i64.wrap (IntKind.i64.wrap (0 - IntKind.i64.wrap (ly - 1)) * bmin gh (IntKind.i64.wrap (kl.tdiv ly))))) 0 [])])) (.cn (i6yb_1 kw kl kt kh 0 (bmin gh (IntKind.i64.wrap (kl.tdiv ly))) (IntKind.i64.wrap (kw - bmax sd (IntKind.i64.wrap (2 * kt)))) (IntKind.i64.wrap ((IntKind.i64.wrap (kw - bmax sd (IntKind.i64.wrap (2 * kt)))).tdiv 2)) kw kl 0 kt kh (v6ya_0_m87_0 kw kl kt kh 0 (bmin gh (IntKind.i64.wrap (kl.tdiv ly))) (IntKind.i64.wrap (kw - bmax sd (IntKind.i64.wrap (2 * kt)))) (IntKind.i64.wrap ((IntKind.i64.wrap (kw - bmax sd (IntKind.i64.wrap (2 * kt)))).tdiv 2)) (bmin eh (IntKind.i64.wrap (IntKind.i64.wrap (0 - IntKind.i64.wrap (ly - 1)) * bmin gh (IntKind.i64.wrap (kl.tdiv ly))))) os (↑os.length : Int) 0 kw kl 0 kt kh 0 0 0) (v6ya_0_m87_1 kw kl kt kh 0 (bmin gh (IntKind.i64.wrap (kl.tdiv ly))) (IntKind.i64.wrap (kw - bmax sd (IntKind.i64.wrap (2 * kt)))) (IntKind.i64.wrap ((IntKind.i64.wrap (kw - bmax sd (IntKind.i64.wrap (2 * kt)))).tdiv 2)) (bmin eh (IntKind.i64.wrap (IntKind.i64.wrap (0 - IntKind.i64.wrap (ly - 1)) * bmin gh (IntKind.i64.wrap (kl.tdiv ly))))) os (↑os.length : Int) 0 kw kl 0 kt kh 0 0 0) 0 (bmin eh (IntKind.i64.wrap (IntKind.i64.wrap (0 - IntKind.i64.wrap (ly - 1)) * bmin gh (IntKind.i64.wrap (kl.tdiv ly))))) 0 []) (.lf (.tup [.agg [.rs 71 (v6yb_1_m88 kw kl kt kh 0 (bmin gh (IntKind.i64.wrap (kl.tdiv ly))) (IntKind.i64.wrap (kw - bmax sd (IntKind.i64.wrap (2 * kt)))) (IntKind.i64.wrap ((IntKind.i64.wrap (kw - bmax sd (IntKind.i64.wrap (2 * kt)))).tdiv 2)) kw kl 0 kt kh (v6ya_0_m87_0 kw kl kt kh 0 (bmin gh (IntKind.i64.wrap (kl.tdiv ly))) (IntKind.i64.wrap (kw - bmax sd (IntKind.i64.wrap (2 * kt)))) (IntKind.i64.wrap ((IntKind.i64.wrap (kw - bmax sd (IntKind.i64.wrap (2 * kt)))).tdiv 2)) (bmin eh (IntKind.i64.wrap (IntKind.i64.wrap (0 - IntKind.i64.wrap (ly - 1)) * bmin gh (IntKind.i64.wrap (kl.tdiv ly))))) os (↑os.length : Int) 0 kw kl 0 kt kh 0 0 0) (v6ya_0_m87_1 kw kl kt kh 0 (bmin gh (IntKind.i64.wrap (kl.tdiv ly))) (IntKind.i64.wrap (kw - bmax sd (IntKind.i64.wrap (2 * kt)))) (IntKind.i64.wrap ((IntKind.i64.wrap (kw - bmax sd (IntKind.i64.wrap (2 * kt)))).tdiv 2)) (bmin eh (IntKind.i64.wrap (IntKind.i64.wrap (0 - IntKind.i64.wrap (ly - 1)) * bmin gh (IntKind.i64.wrap (kl.tdiv ly))))) os (↑os.length : Int) 0 kw kl 0 kt kh 0 0 0) 0 (bmin eh (IntKind.i64.wrap (IntKind.i64.wrap (0 - IntKind.i64.wrap (ly - 1)) * bmin gh (IntKind.i64.wrap (kl.tdiv ly))))) 0 [])], .i .i64 0])) (.nn))) (.nn))))))))) (.nn)) (.cn (w14y_0 os hs == 0) (.cn (g16y 0 kw kl 0 kt kh) (.cn (!w16y_0 0 kw kl 0 kt kh) (.lf (.tup [.agg [.nl], .i .i64 1])) (.cn (w14y_0 os hs != 0) (.lf (.tup [.agg [.nl], .i .i64 (w14y_0 os hs)])) (.cn (decide (ly = 0)) (.nn) (.cn (decide (bmin gh (IntKind.i64.wrap (kl.tdiv ly)) < gl)) (.lf (.tup [.agg [.nl], .i .i64 9])) (.cn (decide (IntKind.i64.wrap (kw - bmax sd (IntKind.i64.wrap (2 * kt))) < 1)) (.lf (.tup [.agg [.nl], .i .i64 9])) (.cn (decide (IntKind.i64.wrap ((IntKind.i64.wrap (kw - bmax sd (IntKind.i64.wrap (2 * kt)))).tdiv 2) < br)) (.lf (.tup [.agg [.nl], .i .i64 9])) (.cn (decide (bmin eh (IntKind.i64.wrap (IntKind.i64.wrap (0 - IntKind.i64.wrap (ly - 1)) * bmin gh (IntKind.i64.wrap (kl.tdiv ly)))) < el)) (.lf (.tup [.agg [.nl], .i .i64 9])) (.nn)))))))) (.nn)) (.cn (w14y_0 os hs != 0) (.lf (.tup [.agg [.nl], .i .i64 (w14y_0 os hs)])) (.cn (decide (ly = 0)) (.nn) (.cn (decide (bmin gh (IntKind.i64.wrap (kl.tdiv ly)) < gl)) (.lf (.tup [.agg [.nl], .i .i64 9])) (.cn (decide (IntKind.i64.wrap (kw - bmax sd (IntKind.i64.wrap (2 * kt))) < 1)) (.lf (.tup [.agg [.nl], .i .i64 9])) (.cn (decide (IntKind.i64.wrap ((IntKind.i64.wrap (kw - bmax sd (IntKind.i64.wrap (2 * kt)))).tdiv 2) < br)) (.lf (.tup [.agg [.nl], .i .i64 9])) (.cn (decide (bmin eh (IntKind.i64.wrap (IntKind.i64.wrap (0 - IntKind.i64.wrap (ly - 1)) * bmin gh (IntKind.i64.wrap (kl.tdiv ly)))) < el)) (.lf (.tup [.agg [.nl], .i .i64 9])) (.nn))))))))) (.nn)
theorem eq6y (os hs : List (List AV)) (ly el eh gl gh sd br ln kw kl kt kh : Int) : evF Try.prog SY4 ro6y L6y Try.f6 [.agg [.rs 42 os, .rs 106 hs], .agg [.i .i64 ly, .i .i64 el, .i .i64 eh, .i .i64 gl, .i .i64 gh, .i .i64 sd, .i .i64 br, .i .i64 ln], .agg [.i .i64 kw, .i .i64 kl, .i .i64 kt, .i .i64 kh]] = (a6y os hs ly el eh gl gh sd br ln kw kl kt kh).opt id := by kernel_rfl
theorem wk6y (os hs : List (List AV)) (ly el eh gl gh sd br ln kw kl kt kh : Int) : (a6y os hs ly el eh gl gh sd br ln kw kl kt kh).map (wkX (.agg [.agg [.e 71], .no])) = (t6y os hs ly el eh gl gh sd br ln kw kl kt kh).map (fun (x : (List (List AV)) × (Int)) => (.tup [.agg [.rs 71 x.1], .i .i64 x.2] : AV)) := by kernel_rfl
theorem con6y (os hs : List (List AV)) (ly el eh gl gh sd br ln kw kl kt kh : Int) (h : g6y os hs ly el eh gl gh sd br ln kw kl kt kh = true) : Con Try.prog 6 [.agg [.rs 42 os, .rs 106 hs], .agg [.i .i64 ly, .i .i64 el, .i .i64 eh, .i .i64 gl, .i .i64 gh, .i .i64 sd, .i .i64 br, .i .i64 ln], .agg [.i .i64 kw, .i .i64 kl, .i .i64 kt, .i .i64 kh]] [] (.tup [.agg [.rs 71 (w6y_0 os hs ly el eh gl gh sd br ln kw kl kt kh)], .i .i64 (w6y_1 os hs ly el eh gl gh sd br ln kw kl kt kh)]) [] := by
  obtain ⟨v, h1, h2⟩ := Tr.soundX (eq6y os hs ly el eh gl gh sd br ln kw kl kt kh) (wk6y os hs ly el eh gl gh sd br ln kw kl kt kh) h
  have := (con_of SY4_ok mixed Try.func6 (c := c6y) rfl (names 6 _ Try.func6) lok6y h1).wkX (.agg [.agg [.e 71], .no])
  rw [h2] at this
  exact this
noncomputable def e6y (args : List AV) (rows : List Blk) : Option (Bool × AV × List Blk) := match args, rows with
  | [.agg [.rs 42 os, .rs 106 hs], .agg [.i .i64 ly, .i .i64 el, .i .i64 eh, .i .i64 gl, .i .i64 gh, .i .i64 sd, .i .i64 br, .i .i64 ln], .agg [.i .i64 kw, .i .i64 kl, .i .i64 kt, .i .i64 kh]], [] => some (g6y os hs ly el eh gl gh sd br ln kw kl kt kh, .tup [.agg [.rs 71 (w6y_0 os hs ly el eh gl gh sd br ln kw kl kt kh)], .i .i64 (w6y_1 os hs ly el eh gl gh sd br ln kw kl kt kh)], [])
  | _, _ => none
theorem e6y_ok (args : List AV) (rows : List Blk) (pre : Bool) (v : AV) (rows' : List Blk) (h : e6y args rows = some (pre, v, rows')) (hp : pre = true) : Con Try.prog 6 args rows v rows' := by
  unfold e6y at h
  split at h
  · cases h; exact con6y _ _ _ _ _ _ _ _ _ _ _ _ _ _ hp
  · cases h
-- SPEC 6
end Go.Proofs.Ytkdiaipaajgcbaa

set_option maxRecDepth 100000
set_option linter.unusedVariables false
set_option linter.unusedSimpArgs false
namespace Go.Proofs.Ytkdiaipaajgcbaa
open Go Go.Ev
theorem g36_ok (a b c d : Int) : g36y a b c d = true := by
  unfold g36y t36y
  cases decide (c ≤ a) <;> cases decide (a ≤ b) <;> rfl
theorem g15_ok (a b c d e f g h : Int) : g15y a b c d e f g h = true ∧ (w15y_0 a b c d e f g h = 0 → 1 ≤ a) := by
  refine TrP.ok (t := t15y a b c d e f g h) (p := fun v => v = 0 → 1 ≤ a) ?_
  unfold t15y
  refine .t (in_ok _ _ _) (.cn (fun _ h => by cases h) fun h1 => ?_)
  rw [in_eq] at h1
  simp only [Bool.not_eq_false', Bool.and_eq_true, decide_eq_true_eq] at h1
  refine .t (g36_ok _ _ _ _) (.cn (fun _ h => by cases h) fun _ => ?_)
  refine .t (g36_ok _ _ _ _) (.cn (fun _ h => by cases h) fun _ => ?_)
  refine .t (in_ok _ _ _) (.cn (fun _ h => by cases h) fun _ => ?_)
  refine .t (in_ok _ _ _) (.cn (fun _ h => by cases h) fun _ => ?_)
  exact .t (in_ok _ _ _) (.cn (fun _ h => by cases h) fun _ _ => h1.1)
theorem g16_ok (a b c d e f : Int) : g16y a b c d e f = true := by
  refine (TrP.ok (t := t16y a b c d e f) (p := fun _ => True) ?_).1
  unfold t16y
  refine .t (in_ok _ _ _) (.cn (fun _ => ?_) fun _ => trivial)
  refine .t (in_ok _ _ _) (.cn (fun _ => ?_) fun _ => trivial)
  refine .t (in_ok _ _ _) (.cn (fun _ => ?_) fun _ => trivial)
  refine .t (in_ok _ _ _) (.cn (fun _ => ?_) fun _ => trivial)
  refine .t (in_ok _ _ _) (.cn (fun _ => ?_) fun _ => trivial)
  exact .cn (fun _ => .t (in_ok _ _ _) trivial) fun _ => trivial
theorem ya_ok {kw kl kt kh t7 t10 t11 t12 t13 : Int} {os : List (List AV)} {a b c d e f : Int} (h : os.length < 9223372036854775807) : ∃ y, r6ya kw kl kt kh t7 t10 t11 t12 t13 os (os.length : Int) a b c d e f 0 0 0 = some y := by
  have := run_cnt (step := fun x : S6ya => stp6ya kw kl kt kh t7 t10 t11 t12 t13 os (os.length : Int) a b c d e f x.t102 x.m87_0 x.m87_1) os.length (fun k x => x.t102 = (k : Int)) (fun _ => True) (fun k x hk hx => by
    obtain ⟨t, _, _⟩ := x
    subst hx
    unfold stp6ya
    dsimp only
    rw [lt_true hk, inb_true hk, wrap_succ (by omega)]
    exact rfl) (fun x hx => by
    obtain ⟨t, _, _⟩ := x
    subst hx
    unfold stp6ya
    dsimp only
    rw [lt_false]
    exact trivial) ⟨0, 0, 0⟩ rfl
  obtain ⟨y, h1, _⟩ := this
  exact ⟨y, h1⟩
theorem yba_ok {kw kl kt kh t7 t10 t11 t12 t19 a b c d e p q m96 t18 m22 : Int} {m88 : List (List AV)} (h0 : 0 ≤ t18) (h1 : t18 ≤ 96) : ∃ y, r6yba kw kl kt kh t7 t10 t11 t12 t19 a b c d e p q m88 m96 t18 m22 [] = some y ∧ (match y with | .x0 n _ _ _ => n = 3 | .x1 t _ _ => 0 ≤ t ∧ t ≤ 96) := by
  refine run_fall (step := fun x : S6yba => stp6yba kw kl kt kh t7 t10 t11 t12 t19 a b c d e p q m88 m96 x.t18 x.m22_0 x.m96_1) (fun x => (97 - x.t18).toNat) (fun x => 0 ≤ x.t18 ∧ x.t18 ≤ 96 ∧ (x.m96_1.length : Int) ≤ x.t18) (fun (y : T6yba) => match y with | .x0 n _ _ _ => n = 3 | .x1 t _ _ => 0 ≤ t ∧ t ≤ 96) (fun x hx => ?_) ⟨t18, m22, []⟩ ⟨h0, h1, by simpa using h0⟩
  obtain ⟨t, m, l⟩ := x
  obtain ⟨i1, i2, i3⟩ := hx
  dsimp only at i1 i2 i3
  unfold stp6yba
  dsimp only
  have e1 : ∀ x : List AV, Nat.ble (l.length + [x].length) 9223372036854775807 = true := fun x => Nat.ble_eq_true_of_le (by simp; omega)
  have e2 : ∀ x : List AV, Nat.ble ((l.length + [x].length) * 48) 140737488355328 = true := fun x => Nat.ble_eq_true_of_le (by simp; omega)
  rw [e1, e2, wrap64 (x := t + 1) (by omega) (by omega)]
  simp only [Bool.and_self, cond_true]
  refine LpOK.cond (fun _ => rfl) (fun h => LpOK.cond (fun _ => ?_) (fun _ => ⟨⟨?_, ?_, ?_⟩, ?_⟩)) <;> simp only [decide_eq_false_iff_not, Int.not_lt] at h
  · exact ⟨by omega, by omega⟩
  · show 0 ≤ t + 1
    omega
  · show t + 1 ≤ 96
    omega
  · show ((l ++ [_]).length : Int) ≤ t + 1
    simp; omega
  · show (97 - (t + 1)).toNat < (97 - t).toNat
    omega
theorem yb_ok {kw kl kt kh t7 t10 t11 t12 t19 a b c d e p q t18 m22 : Int} (h0 : 0 ≤ t18) (h1 : t18 ≤ 96) : ∃ y, r6yb kw kl kt kh t7 t10 t11 t12 a b c d e p q t18 t19 m22 [] = some y ∧ (match y with | .x0 n _ _ _ _ => n = 3 | .x1 _ _ _ l => l.length ≤ 24) := by
  refine run_fall (step := fun x : S6yb => stp6yb kw kl kt kh t7 t10 t11 t12 a b c d e p q x.t18 x.t19 x.m22_0 x.m88) (fun x => 25 - x.m88.length) (fun x => 0 ≤ x.t18 ∧ x.t18 ≤ 96 ∧ x.m88.length ≤ 24) (fun (y : T6yb) => match y with | .x0 n _ _ _ _ => n = 3 | .x1 _ _ _ l => l.length ≤ 24) (fun x hx => ?_) ⟨t18, t19, m22, []⟩ ⟨h0, h1, by simp⟩
  obtain ⟨t, t', m, l⟩ := x
  obtain ⟨i1, i2, i3⟩ := hx
  dsimp only at i1 i2 i3
  unfold stp6yb
  dsimp only
  have e1 : ∀ x : List AV, Nat.ble (l.length + [x].length) 9223372036854775807 = true := fun x => Nat.ble_eq_true_of_le (by simp; omega)
  have e2 : ∀ x : List AV, Nat.ble ((l.length + [x].length) * 32) 140737488355328 = true := fun x => Nat.ble_eq_true_of_le (by simp; omega)
  have key : ∀ u : Int, ∃ y, r6yba kw kl kt kh t7 t10 t11 t12 t' a b c d e p q l t' t u [] = some y ∧ (match y with | .x0 n _ _ _ => n = 3 | .x1 t _ _ => 0 ≤ t ∧ t ≤ 96) := fun u => yba_ok i1 i2
  simp only [e1, e2, Bool.and_self, cond_true]
  refine LpOK.cond (fun _ => ?_) (fun _ => i3)
  refine LpOK.cond (fun _ => ?_) (fun _ => ?_)
  · obtain ⟨y, hy, hq⟩ := key (IntKind.i64.wrap (IntKind.i64.wrap (0 - kt) + IntKind.i64.wrap (t12 - t11)))
    unfold i6yba_0 i6yba_1 v6yba_0_t7' v6yba_1_t18
    rw [hy]
    cases y with
    | x0 n t0 m0 l0 => exact hq
    | x1 t0 m0 l0 =>
      simp only [cond_true, cond_false]
      refine LpOK.cond (fun _ => rfl) (fun h => ⟨⟨hq.1, hq.2, ?_⟩, ?_⟩)
      · simp only [List.length_append, List.length_singleton, decide_eq_false_iff_not, Int.not_lt] at h ⊢
        omega
      · simp only [List.length_append, List.length_singleton]
        omega
  · obtain ⟨y, hy, hq⟩ := key (IntKind.i64.wrap (0 - kt))
    unfold i6yba_0 i6yba_1 v6yba_0_t7' v6yba_1_t18
    rw [hy]
    cases y with
    | x0 n t0 m0 l0 => exact hq
    | x1 t0 m0 l0 =>
      simp only [cond_true, cond_false]
      refine LpOK.cond (fun _ => rfl) (fun h => ⟨⟨hq.1, hq.2, ?_⟩, ?_⟩)
      · simp only [List.length_append, List.length_singleton, decide_eq_false_iff_not, Int.not_lt] at h ⊢
        omega
      · simp only [List.length_append, List.length_singleton]
        omega
theorem lay_ok {os hs : List (List AV)} (ly el eh gl gh sd br ln kw kl kt kh : Int) (hS : okS os = true) (h1 : os.length ≤ 30) (h2 : hs.length ≤ 20) :
    g6y os hs ly el eh gl gh sd br ln kw kl kt kh = true ∧ (w6y_1 os hs ly el eh gl gh sd br ln kw kl kt kh = 0 → Fine os ∧ os.length ≤ 12) := by
  obtain ⟨a1, a2⟩ := area_ok (hs := hs) hS h1 h2
  obtain ⟨b1, b2⟩ := g15_ok ly el eh gl gh sd br ln
  refine TrP.ok (t := t6y os hs ly el eh gl gh sd br ln kw kl kt kh) (p := fun v => v.2 = 0 → Fine os ∧ os.length ≤ 12) ?_
  have ha : ∀ {t7 t10 t11 t12 t13 a b c d e f : Int}, ∃ y, r6ya kw kl kt kh t7 t10 t11 t12 t13 os (os.length : Int) a b c d e f 0 0 0 = some y := fun {t7 t10 t11 t12 t13 a b c d e f} => ya_ok (by omega)
  have hb : ∀ {t7 t10 t11 t12 t19 a b c d e p q m22 : Int}, ∃ y, r6yb kw kl kt kh t7 t10 t11 t12 a b c d e p q 0 t19 m22 [] = some y ∧ (match y with | .x0 n _ _ _ _ => n = 3 | .x1 _ _ _ l => l.length ≤ 24) := fun {t7 t10 t11 t12 t19 a b c d e p q m22} => yb_ok (by decide) (by decide)
  unfold t6y
  refine .t a1 (.cn (fun h14 => ?_) (fun h14 => ?_))
  · have h14 := a2 (by simpa using h14)
    refine .t b1 (.cn (fun h15 => ?_) (fun h15 => ?_))
    · have h15 := b2 (by simpa using h15)
      refine .t (g16_ok _ _ _ _ _ _) (.cn (fun _ h => by cases h) fun _ => ?_)
      refine .cn (fun _ _ => ⟨h14.1, h14.2.1⟩) fun _ => ?_
      refine .f (decide_eq_false (by omega)) ?_
      refine .cn (fun _ h => by cases h) fun _ => .cn (fun _ h => by cases h) fun _ => .cn (fun _ h => by cases h) fun _ => .cn (fun _ h => by cases h) fun _ => ?_
      obtain ⟨y, hy⟩ := ha
      refine .t (by unfold i6ya_0; rw [hy]) ?_
      obtain ⟨z, hz, hq⟩ := hb
      unfold i6yb_0 i6yb_1 v6yb_0_t7'
      rw [hz]
      cases z with
      | x0 n _ _ _ _ => exact .t rfl fun h => by dsimp only at h hq; omega
      | x1 _ _ _ l => exact .f rfl (.t rfl fun _ => ⟨h14.1, h14.2.1⟩)
    · have h15' : w15y_0 ly el eh gl gh sd br ln ≠ 0 := by simpa using h15
      exact .t (by simpa using h15') fun h => absurd h h15'
  · have h14' : w14y_0 os hs ≠ 0 := by simpa using h14
    exact .f h14 (.t (by simpa using h14') fun h => absurd h h14')
end Go.Proofs.Ytkdiaipaajgcbaa

set_option linter.unusedVariables false
namespace Go.Proofs.Ytkdiaipaajgcbaa
open Go Go.Ev
noncomputable def e19 (args : List AV) (rows : List Blk) : Option (Bool × AV × List Blk) := match args, rows with
  | [], [] => some (true, .b true, [])
  | _, _ => none
theorem e19_ok (args : List AV) (rows : List Blk) (pre : Bool) (v : AV) (rows' : List Blk) (h : e19 args rows = some (pre, v, rows')) (hp : pre = true) : Con Try.prog 5 args rows v rows' := by
  unfold e19 at h
  split at h
  · cases h; exact lives_con
  · cases h
-- SPEC 19
end Go.Proofs.Ytkdiaipaajgcbaa

set_option maxRecDepth 100000
set_option maxHeartbeats 0
set_option linter.unusedVariables false
namespace Go.Proofs.Ytkdiaipaajgcbaa
open Go Go.Ev

noncomputable def c4y : Code := match Try.f4.body with | some c => c | _ => .skip
theorem lok4y : LOK Try.prog S0 (ro 4) (fun _ _ => none) 0 false c4y [] :=
  lok_lo (fun _ _ _ _ _ _ _ h _ => by cases h) c4y [] false (locate_nil _) (by kernel_rfl)
noncomputable def t4y (os hs : List (List AV)) : Tr ((Bool)) :=
  .cn (decide ((↑os.length : Int) > 30)) (.lf (true)) (.lf (decide ((↑hs.length : Int) > 20)))
noncomputable def g4y (os hs : List (List AV)) : Bool := (t4y os hs).g
noncomputable def w4y_0 (os hs : List (List AV)) : Bool := (t4y os hs).val
theorem eq4y (os hs : List (List AV)) : evF Try.prog S0 (ro 4) (fun _ _ => none) Try.f4 [.agg [.rs 42 os, .rs 106 hs]] = (t4y os hs).opt (fun (x : (Bool)) => (.b x : AV)) := by kernel_rfl
theorem con4y (os hs : List (List AV)) (h : g4y os hs = true) : Con Try.prog 4 [.agg [.rs 42 os, .rs 106 hs]] [] (.b (w4y_0 os hs)) [] :=
  con_of S0_ok mixed Try.func4 (c := c4y) rfl (names 4 _ Try.func4) lok4y ((eq4y os hs).trans (Tr.sound _ _ h))
noncomputable def e4y (args : List AV) (rows : List Blk) : Option (Bool × AV × List Blk) := match args, rows with
  | [.agg [.rs 42 os, .rs 106 hs]], [] => some (g4y os hs, .b (w4y_0 os hs), [])
  | _, _ => none
theorem e4y_ok (args : List AV) (rows : List Blk) (pre : Bool) (v : AV) (rows' : List Blk) (h : e4y args rows = some (pre, v, rows')) (hp : pre = true) : Con Try.prog 4 args rows v rows' := by
  unfold e4y at h
  split at h
  · cases h; exact con4y _ _ hp
  · cases h
-- SPEC 4
end Go.Proofs.Ytkdiaipaajgcbaa

set_option maxRecDepth 100000
set_option linter.unusedVariables false
namespace Go.Proofs.Ytkdiaipaajgcbaa
open Go Go.Ev
noncomputable def SY6 : Ev.Spec := insS 6 e6y (insS 4 e4y (insS 8 e22 (insS 7 e45 (insS 5 e19 (S0)))))
theorem SY6_ok : SpecOK Try.prog SY6 := insS_ok e6y_ok (insS_ok e4y_ok (insS_ok e22_ok (insS_ok e45_ok (insS_ok e19_ok (S0_ok)))))
end Go.Proofs.Ytkdiaipaajgcbaa

set_option maxRecDepth 100000
set_option maxHeartbeats 0
set_option linter.unusedVariables false
namespace Go.Proofs.Ytkdiaipaajgcbaa
open Go Go.Ev

noncomputable def c3y : Code := match Try.f3.body with | some c => c | _ => .skip
noncomputable def lp3ya : Code := loopAt c3y [true, true, true, true, true, false, true, false]
noncomputable def s3ya (sk kf : Int) (os hs : List (List AV)) (t10 : Bool) (t12 t13 t14 : Int) (m13 : List (List AV)) : St :=
  { t := [(3, .i .u16 sk), (4, .i .u8 kf), (5, .rp [.sl 42, .sl 106] [.rs 42 os, .rs 106 hs] 0), (10, .b t10), (11, .p 13 0 0), (12, .i .i64 t12), (13, .i .i64 t13), (14, .i .i64 t14)], m := [(0, .dead), (1, .dead), (2, .dead), (3, .dead), (4, .dead), (5, .dead), (6, .dead), (7, .dead), (8, .dead), (9, .dead), (10, .dead), (11, .dead), (12, .dead), (13, .row 37 [[.rs 71 m13]])], nx := 14, nt := 120 }
structure S3ya where
  t13 : Int
  t14 : Int
inductive T3ya where
  | x0 (t13 : Int) (t14 : Int)
noncomputable def stp3ya (sk kf : Int) (os hs : List (List AV)) (t10 : Bool) (t12 : Int) (m13 : List (List AV)) (t13 t14 : Int) : Lp S3ya T3ya :=
  cond (decide (t14 < (↑os.length : Int))) (cond (inb t14 os.length) (.go ⟨bmax t13 (fI (os.getD t14.toNat []) 0), IntKind.i64.wrap (t14 + 1)⟩) (.bad)) (.out (.x0 t13 t14))
noncomputable def o3ya_0 (sk kf : Int) (os hs : List (List AV)) (t10 : Bool) (t12 : Int) (m13 : List (List AV)) (t13 t14 : Int) : St :=
  { t := [(3, .i .u16 sk), (4, .i .u8 kf), (5, .rp [.sl 42, .sl 106] [.rs 42 os, .rs 106 hs] 0), (10, .b t10), (11, .p 13 0 0), (12, .i .i64 t12), (13, .i .i64 t13), (14, .i .i64 t14)], m := [(0, .dead), (1, .dead), (2, .dead), (3, .dead), (4, .dead), (5, .dead), (6, .dead), (7, .dead), (8, .dead), (9, .dead), (10, .dead), (11, .dead), (12, .dead), (13, .row 37 [[.rs 71 m13]])], nx := 14, nt := 120 }
noncomputable def ou3ya (sk kf : Int) (os hs : List (List AV)) (t10 : Bool) (t12 : Int) (m13 : List (List AV)) : T3ya → Ex × St
  | .x0 t13 t14 => (.ext 0, o3ya_0 sk kf os hs t10 t12 m13 t13 t14)
noncomputable def r3ya (sk kf : Int) (os hs : List (List AV)) (t10 : Bool) (t12 : Int) (m13 : List (List AV)) (t13 t14 : Int) : Option T3ya := run (fun x => stp3ya sk kf os hs t10 t12 m13 x.t13 x.t14) (⟨t13, t14⟩ : S3ya)
noncomputable def i3ya_0 (sk kf : Int) (os hs : List (List AV)) (t10 : Bool) (t12 : Int) (m13 : List (List AV)) (t13 t14 : Int) : Bool := match r3ya sk kf os hs t10 t12 m13 t13 t14 with
  | some (.x0 _ _) => true
  | _ => false
noncomputable def v3ya_0_t13 (sk kf : Int) (os hs : List (List AV)) (t10 : Bool) (t12 : Int) (m13 : List (List AV)) (t13 t14 : Int) : Int := match r3ya sk kf os hs t10 t12 m13 t13 t14 with
  | some (.x0 t13 _) => t13
  | _ => default
noncomputable def v3ya_0_t14 (sk kf : Int) (os hs : List (List AV)) (t10 : Bool) (t12 : Int) (m13 : List (List AV)) (t13 t14 : Int) : Int := match r3ya sk kf os hs t10 t12 m13 t13 t14 with
  | some (.x0 _ t14) => t14
  | _ => default
noncomputable def q3ya (sk kf : Int) (os hs : List (List AV)) (t10 : Bool) (t12 t13 t14 : Int) (m13 : List (List AV)) : List (Bool × Ex × St) := [(i3ya_0 sk kf os hs t10 t12 m13 t13 t14, .ext 0, o3ya_0 sk kf os hs t10 t12 m13 (v3ya_0_t13 sk kf os hs t10 t12 m13 t13 t14) (v3ya_0_t14 sk kf os hs t10 t12 m13 t13 t14))]
noncomputable def l3ya (st : St) : Option (List (Bool × Ex × St)) := qget [.i .u16, .i .u8, .rp [.sl 42, .sl 106] [.rs 42, .rs 106] 0, .b, .p 13 0 0, .i .i64, .i .i64, .i .i64] [(0, .dead), (1, .dead), (2, .dead), (3, .dead), (4, .dead), (5, .dead), (6, .dead), (7, .dead), (8, .dead), (9, .dead), (10, .dead), (11, .dead), (12, .dead), (13, .row 37 [.l [.rs 71]])] 14 120 (normW Try.prog [(3, none), (4, none), (5, none), (10, none), (11, none), (12, none), (13, none), (14, none)] 14 st) fun ls => q3ya (lI ls 0) (lI ls 1) (lLL ls 2) (lLL ls 3) (lB ls 4) (lI ls 5) (lI ls 6) (lI ls 7) (lLL ls 8)
noncomputable def L3y : LSpec := fun p st => match p with
  | [false, true, false, true, true, true, true, true] => l3ya st
  | _ => none
theorem is3ya_0 (sk kf : Int) (os hs : List (List AV)) (t10 : Bool) (t12 : Int) (m13 : List (List AV)) (t13 t14 : Int) (h : i3ya_0 sk kf os hs t10 t12 m13 t13 t14 = true) : r3ya sk kf os hs t10 t12 m13 t13 t14 = some (.x0 (v3ya_0_t13 sk kf os hs t10 t12 m13 t13 t14) (v3ya_0_t14 sk kf os hs t10 t12 m13 t13 t14)) := by
  unfold i3ya_0 at h
  unfold v3ya_0_t13 v3ya_0_t14
  generalize r3ya sk kf os hs t10 t12 m13 t13 t14 = r at h ⊢
  rcases r with _ | y
  · cases h
  · cases y <;> first | rfl | cases h
theorem round3ya (sk kf : Int) (os hs : List (List AV)) (t10 : Bool) (t12 t13 t14 : Int) (m13 : List (List AV)) : round Try.prog SY6 (ro 3) L3y lp3ya [false, true, false, true, true, true, true, true] [(3, none), (4, none), (5, none), (10, none), (11, none), (12, none), (13, none), (14, none)] 14 (s3ya sk kf os hs t10 t12 t13 t14 m13) =
    cond (decide (t14 < (↑os.length : Int))) (cond (inb t14 os.length) (some (.nrm, s3ya sk kf os hs t10 t12 (bmax t13 (fI (os.getD t14.toNat []) 0)) (IntKind.i64.wrap (t14 + 1)) m13)) (none)) (some (.ext 0, o3ya_0 sk kf os hs t10 t12 m13 t13 t14)) := by kernel_rfl
theorem rnd3ya (sk kf : Int) (os hs : List (List AV)) (t10 : Bool) (t12 : Int) (m13 : List (List AV)) (x : S3ya) : round Try.prog SY6 (ro 3) L3y lp3ya [false, true, false, true, true, true, true, true] [(3, none), (4, none), (5, none), (10, none), (11, none), (12, none), (13, none), (14, none)] 14 ((fun x => s3ya sk kf os hs t10 t12 x.t13 x.t14 m13) x) = toR (fun x => s3ya sk kf os hs t10 t12 x.t13 x.t14 m13) (ou3ya sk kf os hs t10 t12 m13) (stp3ya sk kf os hs t10 t12 m13 x.t13 x.t14) := by
  refine (round3ya _ _ _ _ _ _ _ _ _ ).trans ?_
  unfold stp3ya
  simp only [toR_cond]
  rfl
theorem lokb3ya (sk kf : Int) (os hs : List (List AV)) (t10 : Bool) (t12 t13 t14 : Int) (m13 : List (List AV)) {e : Ex} {s : St} (hch : Chosen (q3ya sk kf os hs t10 t12 t13 t14 m13) e s) : LB Try.prog SY6 (ro 3) L3y lp3ya [false, true, false, true, true, true, true, true] [(3, none), (4, none), (5, none), (10, none), (11, none), (12, none), (13, none), (14, none)] 14 (s3ya sk kf os hs t10 t12 t13 t14 m13) e s := by
  unfold q3ya at hch
  have main := fun y h => LB_run (x := (⟨t13, t14⟩ : S3ya)) (y := y) (nb := 14) (fun y => by cases y <;> simp [ou3ya]) (rnd3ya sk kf os hs t10 t12 m13) h
  obtain ⟨x, hx, hg, rfl, rfl⟩ := chosen_any hch
  simp only [List.mem_cons, List.not_mem_nil, or_false] at hx
  subst hx
  exact main _ (is3ya_0 sk kf os hs t10 t12 m13 t13 t14 hg)
theorem lok3ya {st : St} {outs : List (Bool × Ex × St)} {e : Ex} {s : St} (hl : l3ya st = some outs) (hch : Chosen outs e s) :
    ∃ keep nb, 0 ≤ nb ∧ LB Try.prog SY6 (ro 3) L3y lp3ya [false, true, false, true, true, true, true, true] keep nb st e s := by
  unfold l3ya at hl
  obtain ⟨ls, hno, rfl⟩ := qget_some hl
  have hno := normW_norm hno
  refine ⟨_, _, ?_, .enterQ hno (s2 := s3ya (lI ls 0) (lI ls 1) (lLL ls 2) (lLL ls 3) (lB ls 4) (lI ls 5) (lI ls 6) (lI ls 7) (lLL ls 8)) (by kernel_rfl) (lokb3ya _ _ _ _ _ _ _ _ _ hch)⟩
  decide
theorem L3y_ok (q : Pl) (c : Code) (hq : locate c3y q.reverse = some (.loop c)) (st : St) (outs : List (Bool × Ex × St)) (e : Ex) (s : St) (hl : L3y q st = some outs) (hch : Chosen outs e s) :
    ∃ keep nb, 0 ≤ nb ∧ LB Try.prog SY6 (ro 3) L3y c q keep nb st e s := by
  unfold L3y at hl
  split at hl
  · have : locate c3y ([false, true, false, true, true, true, true, true] : Pl).reverse = some (.loop lp3ya) := by kernel_rfl
    rw [this] at hq
    cases hq
    exact lok3ya hl hch
  · cases hl
theorem lok3y : LOK Try.prog SY6 (ro 3) L3y 0 false c3y [] :=
  lok_lo L3y_ok c3y [] false (locate_nil _) (by kernel_rfl)
noncomputable def t3y (os hs : List (List AV)) (ly el eh gl gh sd br ln kw kl kt kh sk kf : Int) : Tr ((Bool)) :=
  .cn (g4y os hs) (.cn (w4y_0 os hs) (.lf (true)) (.cn (g6y os hs ly el eh gl gh sd br ln kw kl kt kh) (.cn (w6y_1 os hs ly el eh gl gh sd br ln kw kl kt kh != 0) (.lf (true)) (.cn (decide ((↑(w6y_0 os hs ly el eh gl gh sd br ln kw kl kt kh).length : Int) > 9)) (.lf (true)) (.cn (i3ya_0 sk kf os hs false (w6y_1 os hs ly el eh gl gh sd br ln kw kl kt kh) (w6y_0 os hs ly el eh gl gh sd br ln kw kl kt kh) 0 0) (.cn (decide (v3ya_0_t13 sk kf os hs false (w6y_1 os hs ly el eh gl gh sd br ln kw kl kt kh) (w6y_0 os hs ly el eh gl gh sd br ln kw kl kt kh) 0 0 < 1)) (.lf (true)) (.cn (decide (IntKind.i64.wrap (v3ya_0_t13 sk kf os hs false (w6y_1 os hs ly el eh gl gh sd br ln kw kl kt kh) (w6y_0 os hs ly el eh gl gh sd br ln kw kl kt kh) 0 0 + IntKind.i64.wrap kf) = 0)) (.nn) (.cn (decide (IntKind.i64.wrap ((IntKind.i64.wrap (IntKind.i64.wrap (v3ya_0_t13 sk kf os hs false (w6y_1 os hs ly el eh gl gh sd br ln kw kl kt kh) (w6y_0 os hs ly el eh gl gh sd br ln kw kl kt kh) 0 0 + IntKind.i64.wrap sk) + IntKind.i64.wrap kf)).tdiv (IntKind.i64.wrap (v3ya_0_t13 sk kf os hs false (w6y_1 os hs ly el eh gl gh sd br ln kw kl kt kh) (w6y_0 os hs ly el eh gl gh sd br ln kw kl kt kh) 0 0 + IntKind.i64.wrap kf))) = 0)) (.nn) (.cn (g45 (IntKind.i64.wrap (v3ya_0_t13 sk kf os hs false (w6y_1 os hs ly el eh gl gh sd br ln kw kl kt kh) (w6y_0 os hs ly el eh gl gh sd br ln kw kl kt kh) 0 0 + IntKind.i64.wrap sk)) (IntKind.i64.wrap kf) [[AV.i IntKind.i64 (v3ya_0_t13 sk kf os hs false (w6y_1 os hs ly el eh gl gh sd br ln kw kl kt kh) (w6y_0 os hs ly el eh gl gh sd br ln kw kl kt kh) 0 0), AV.i IntKind.i64 (↑(w6y_0 os hs ly el eh gl gh sd br ln kw kl kt kh).length : Int)]]) (.cn (g22 (IntKind.i64.wrap (v3ya_0_t13 sk kf os hs false (w6y_1 os hs ly el eh gl gh sd br ln kw kl kt kh) (w6y_0 os hs ly el eh gl gh sd br ln kw kl kt kh) 0 0 + IntKind.i64.wrap sk)) (IntKind.i64.wrap kf) [[AV.i IntKind.i64 (v3ya_0_t13 sk kf os hs false (w6y_1 os hs ly el eh gl gh sd br ln kw kl kt kh) (w6y_0 os hs ly el eh gl gh sd br ln kw kl kt kh) 0 0), AV.i IntKind.i64 (↑(w6y_0 os hs ly el eh gl gh sd br ln kw kl kt kh).length : Int)]] [[AV.i IntKind.i64 1]]) (.cn (w45_1 (IntKind.i64.wrap (v3ya_0_t13 sk kf os hs false (w6y_1 os hs ly el eh gl gh sd br ln kw kl kt kh) (w6y_0 os hs ly el eh gl gh sd br ln kw kl kt kh) 0 0 + IntKind.i64.wrap sk)) (IntKind.i64.wrap kf) [[AV.i IntKind.i64 (v3ya_0_t13 sk kf os hs false (w6y_1 os hs ly el eh gl gh sd br ln kw kl kt kh) (w6y_0 os hs ly el eh gl gh sd br ln kw kl kt kh) 0 0), AV.i IntKind.i64 (↑(w6y_0 os hs ly el eh gl gh sd br ln kw kl kt kh).length : Int)]] == 0) (.cn (w22_1 (IntKind.i64.wrap (v3ya_0_t13 sk kf os hs false (w6y_1 os hs ly el eh gl gh sd br ln kw kl kt kh) (w6y_0 os hs ly el eh gl gh sd br ln kw kl kt kh) 0 0 + IntKind.i64.wrap sk)) (IntKind.i64.wrap kf) [[AV.i IntKind.i64 (v3ya_0_t13 sk kf os hs false (w6y_1 os hs ly el eh gl gh sd br ln kw kl kt kh) (w6y_0 os hs ly el eh gl gh sd br ln kw kl kt kh) 0 0), AV.i IntKind.i64 (↑(w6y_0 os hs ly el eh gl gh sd br ln kw kl kt kh).length : Int)]] [[AV.i IntKind.i64 1]] == 0) (.cn ((↑(w45_0 (IntKind.i64.wrap (v3ya_0_t13 sk kf os hs false (w6y_1 os hs ly el eh gl gh sd br ln kw kl kt kh) (w6y_0 os hs ly el eh gl gh sd br ln kw kl kt kh) 0 0 + IntKind.i64.wrap sk)) (IntKind.i64.wrap kf) [[AV.i IntKind.i64 (v3ya_0_t13 sk kf os hs false (w6y_1 os hs ly el eh gl gh sd br ln kw kl kt kh) (w6y_0 os hs ly el eh gl gh sd br ln kw kl kt kh) 0 0), AV.i IntKind.i64 (↑(w6y_0 os hs ly el eh gl gh sd br ln kw kl kt kh).length : Int)]]).length : Int) == IntKind.i64.wrap ((IntKind.i64.wrap (IntKind.i64.wrap ((↑(w6y_0 os hs ly el eh gl gh sd br ln kw kl kt kh).length : Int) + IntKind.i64.wrap ((IntKind.i64.wrap (IntKind.i64.wrap (v3ya_0_t13 sk kf os hs false (w6y_1 os hs ly el eh gl gh sd br ln kw kl kt kh) (w6y_0 os hs ly el eh gl gh sd br ln kw kl kt kh) 0 0 + IntKind.i64.wrap sk) + IntKind.i64.wrap kf)).tdiv (IntKind.i64.wrap (v3ya_0_t13 sk kf os hs false (w6y_1 os hs ly el eh gl gh sd br ln kw kl kt kh) (w6y_0 os hs ly el eh gl gh sd br ln kw kl kt kh) 0 0 + IntKind.i64.wrap kf)))) - 1)).tdiv (IntKind.i64.wrap ((IntKind.i64.wrap (IntKind.i64.wrap (v3ya_0_t13 sk kf os hs false (w6y_1 os hs ly el eh gl gh sd br ln kw kl kt kh) (w6y_0 os hs ly el eh gl gh sd br ln kw kl kt kh) 0 0 + IntKind.i64.wrap sk) + IntKind.i64.wrap kf)).tdiv (IntKind.i64.wrap (v3ya_0_t13 sk kf os hs false (w6y_1 os hs ly el eh gl gh sd br ln kw kl kt kh) (w6y_0 os hs ly el eh gl gh sd br ln kw kl kt kh) 0 0 + IntKind.i64.wrap kf)))))) (.cn (w22_0 (IntKind.i64.wrap (v3ya_0_t13 sk kf os hs false (w6y_1 os hs ly el eh gl gh sd br ln kw kl kt kh) (w6y_0 os hs ly el eh gl gh sd br ln kw kl kt kh) 0 0 + IntKind.i64.wrap sk)) (IntKind.i64.wrap kf) [[AV.i IntKind.i64 (v3ya_0_t13 sk kf os hs false (w6y_1 os hs ly el eh gl gh sd br ln kw kl kt kh) (w6y_0 os hs ly el eh gl gh sd br ln kw kl kt kh) 0 0), AV.i IntKind.i64 (↑(w6y_0 os hs ly el eh gl gh sd br ln kw kl kt kh).length : Int)]] [[AV.i IntKind.i64 1]] == IntKind.i64.wrap ((IntKind.i64.wrap (IntKind.i64.wrap ((↑(w6y_0 os hs ly el eh gl gh sd br ln kw kl kt kh).length : Int) + IntKind.i64.wrap ((IntKind.i64.wrap (IntKind.i64.wrap (v3ya_0_t13 sk kf os hs false (w6y_1 os hs ly el eh gl gh sd br ln kw kl kt kh) (w6y_0 os hs ly el eh gl gh sd br ln kw kl kt kh) 0 0 + IntKind.i64.wrap sk) + IntKind.i64.wrap kf)).tdiv (IntKind.i64.wrap (v3ya_0_t13 sk kf os hs false (w6y_1 os hs ly el eh gl gh sd br ln kw kl kt kh) (w6y_0 os hs ly el eh gl gh sd br ln kw kl kt kh) 0 0 + IntKind.i64.wrap kf)))) - 1)).tdiv (IntKind.i64.wrap ((IntKind.i64.wrap (IntKind.i64.wrap (v3ya_0_t13 sk kf os hs false (w6y_1 os hs ly el eh gl gh sd br ln kw kl kt kh) (w6y_0 os hs ly el eh gl gh sd br ln kw kl kt kh) 0 0 + IntKind.i64.wrap sk) + IntKind.i64.wrap kf)).tdiv (IntKind.i64.wrap (v3ya_0_t13 sk kf os hs false (w6y_1 os hs ly el eh gl gh sd br ln kw kl kt kh) (w6y_0 os hs ly el eh gl gh sd br ln kw kl kt kh) 0 0 + IntKind.i64.wrap kf)))))) (.lf (true)) (.lf (false))) (.lf (false))) (.lf (false))) (.lf (false))) (.nn)) (.nn))))) (.nn)))) (.nn))) (.nn)
noncomputable def g3y (os hs : List (List AV)) (ly el eh gl gh sd br ln kw kl kt kh sk kf : Int) : Bool := (t3y os hs ly el eh gl gh sd br ln kw kl kt kh sk kf).g
noncomputable def w3y_0 (os hs : List (List AV)) (ly el eh gl gh sd br ln kw kl kt kh sk kf : Int) : Bool := (t3y os hs ly el eh gl gh sd br ln kw kl kt kh sk kf).val
theorem eq3y (os hs : List (List AV)) (ly el eh gl gh sd br ln kw kl kt kh sk kf : Int) : evF Try.prog SY6 (ro 3) L3y Try.f3 [.agg [.rs 42 os, .rs 106 hs], .agg [.i .i64 ly, .i .i64 el, .i .i64 eh, .i .i64 gl, .i .i64 gh, .i .i64 sd, .i .i64 br, .i .i64 ln], .agg [.i .i64 kw, .i .i64 kl, .i .i64 kt, .i .i64 kh], .i .u16 sk, .i .u8 kf] = (t3y os hs ly el eh gl gh sd br ln kw kl kt kh sk kf).opt (fun (x : (Bool)) => (.b x : AV)) := by kernel_rfl
theorem con3y (os hs : List (List AV)) (ly el eh gl gh sd br ln kw kl kt kh sk kf : Int) (h : g3y os hs ly el eh gl gh sd br ln kw kl kt kh sk kf = true) : Con Try.prog 3 [.agg [.rs 42 os, .rs 106 hs], .agg [.i .i64 ly, .i .i64 el, .i .i64 eh, .i .i64 gl, .i .i64 gh, .i .i64 sd, .i .i64 br, .i .i64 ln], .agg [.i .i64 kw, .i .i64 kl, .i .i64 kt, .i .i64 kh], .i .u16 sk, .i .u8 kf] [] (.b (w3y_0 os hs ly el eh gl gh sd br ln kw kl kt kh sk kf)) [] :=
  con_of SY6_ok mixed Try.func3 (c := c3y) rfl (names 3 _ Try.func3) lok3y ((eq3y os hs ly el eh gl gh sd br ln kw kl kt kh sk kf).trans (Tr.sound _ _ h))
-- SPEC 3
end Go.Proofs.Ytkdiaipaajgcbaa

set_option maxRecDepth 100000
set_option linter.unusedVariables false
set_option linter.unusedSimpArgs false
namespace Go.Proofs.Ytkdiaipaajgcbaa
open Go Go.Ev
theorem wide_ok {sk kf : Int} {os hs : List (List AV)} {b : Bool} {t12 : Int} {l : List (List AV)} (hF : Fine os) (h : os.length ≤ 30) : ∃ y, r3ya sk kf os hs b t12 l 0 0 = some y ∧ (match y with | .x0 w _ => 0 ≤ w ∧ w ≤ 400) := by
  refine run_cnt (step := fun x : S3ya => stp3ya sk kf os hs b t12 l x.t13 x.t14) os.length (fun k x => x.t14 = (k : Int) ∧ 0 ≤ x.t13 ∧ x.t13 ≤ 400) (fun (y : T3ya) => match y with | .x0 w _ => 0 ≤ w ∧ w ≤ 400) (fun k x hk hx => ?_) (fun x hx => ?_) ⟨0, 0⟩ ⟨rfl, by decide, by decide⟩
  · obtain ⟨t, i⟩ := x
    obtain ⟨rfl, i1, i2⟩ := hx
    unfold stp3ya
    dsimp only at i1 i2 ⊢
    rw [lt_true hk, inb_true hk, wrap_succ (by omega), Int.toNat_natCast]
    have := (hF k hk).1
    refine ⟨rfl, ?_, ?_⟩ <;> simp only [bmax] <;> split <;> omega
  · obtain ⟨t, i⟩ := x
    obtain ⟨rfl, i1, i2⟩ := hx
    unfold stp3ya
    dsimp only at i1 i2 ⊢
    rw [lt_false]
    exact ⟨i1, i2⟩
theorem sways_law {os hs : List (List AV)} {ly el eh gl gh sd br ln kw kl kt kh sk kf : Int} (hT : (sidesX os).all (fun x => plainL (encS x)) = true) (hsk : 0 ≤ sk ∧ sk ≤ 65535) (hkf : 0 ≤ kf ∧ kf ≤ 255) :
    g3y os hs ly el eh gl gh sd br ln kw kl kt kh sk kf = true ∧ w3y_0 os hs ly el eh gl gh sd br ln kw kl kt kh sk kf = true := by
  refine TrP.ok (t := t3y os hs ly el eh gl gh sd br ln kw kl kt kh sk kf) (p := fun v => v = true) ?_
  have h4 : g4y os hs = true ∧ (w4y_0 os hs = false → os.length ≤ 30 ∧ hs.length ≤ 20) := by
    refine TrP.ok (t := t4y os hs) (p := fun v => v = false → os.length ≤ 30 ∧ hs.length ≤ 20) ?_
    unfold t4y
    refine .cn (fun _ h => by cases h) fun h1 h2 => ?_
    simp only [decide_eq_false_iff_not, Int.not_lt] at h1 h2
    omega
  unfold t3y
  refine .t h4.1 (.cn (fun _ => rfl) fun hw => ?_)
  obtain ⟨l1, l2⟩ := h4.2 hw
  have hS : okS os = true := Bool.and_eq_true_iff.2 ⟨Nat.ble_eq_true_of_le (by omega), hT⟩
  obtain ⟨g6, p6⟩ := lay_ok (hs := hs) ly el eh gl gh sd br ln kw kl kt kh hS l1 l2
  generalize hl : w6y_0 os hs ly el eh gl gh sd br ln kw kl kt kh = l
  generalize he : w6y_1 os hs ly el eh gl gh sd br ln kw kl kt kh = e at p6
  refine .t g6 (.cn (fun _ => rfl) fun he' => .cn (fun _ => rfl) fun hm => ?_)
  have he' : e = 0 := by simpa using he'
  obtain ⟨hF, _⟩ := p6 he'
  obtain ⟨y, hy, hq⟩ := wide_ok (sk := sk) (kf := kf) (hs := hs) (b := false) (t12 := e) (l := l) hF l1
  unfold i3ya_0 v3ya_0_t13
  rw [hy]
  obtain ⟨w, t⟩ := y
  dsimp only at hq ⊢
  refine .t rfl (.cn (fun _ => rfl) fun hw1 => ?_)
  simp only [decide_eq_false_iff_not, Int.not_lt] at hm hw1
  have hml : (l.length : Int) ≤ 9 := by omega
  have esk : IntKind.i64.wrap sk = sk := wrap64 (by omega) (by omega)
  have ekf : IntKind.i64.wrap kf = kf := wrap64 (by omega) (by omega)
  have es : IntKind.i64.wrap (w + sk) = w + sk := wrap64 (by omega) (by omega)
  have es2 : IntKind.i64.wrap (w + sk + kf) = w + sk + kf := wrap64 (by omega) (by omega)
  have eL : IntKind.i64.wrap (w + kf) = w + kf := wrap64 (by omega) (by omega)
  have ed : (w + sk + kf).tdiv (w + kf) = (w + sk + kf) / (w + kf) := Int.tdiv_eq_ediv_of_nonneg (by omega)
  rw [esk, ekf, es, es2, eL, ed]
  have hm' : (0 : Int) ≤ (l.length : Int) ∧ (l.length : Int) < 10 := by omega
  generalize (l.length : Int) = m at hm' ⊢
  obtain ⟨⟨H1, H2, H3, H4⟩, a1, a2, a3, a4, a5, a6⟩ := alike_gen (s := w + sk) (z := kf) (L := w) (m := m) (H := (w + sk + kf) / (w + kf)) (W := (m + (w + sk + kf) / (w + kf) - 1) / ((w + sk + kf) / (w + kf))) (by omega) hkf (by omega) hm' rfl rfl
  generalize hH : (w + sk + kf) / (w + kf) = H at *
  have eH : IntKind.i64.wrap H = H := wrap64 (by omega) (by omega)
  have e1 : IntKind.i64.wrap (m + H) = m + H := wrap64 (by omega) (by omega)
  have e2 : IntKind.i64.wrap (m + H - 1) = m + H - 1 := wrap64 (by omega) (by omega)
  have e3 : (m + H - 1).tdiv H = (m + H - 1) / H := Int.tdiv_eq_ediv_of_nonneg (by omega)
  rw [eH, e1, e2, e3]
  generalize hW : (m + H - 1) / H = W at *
  have eW : IntKind.i64.wrap W = W := wrap64 (by omega) (by omega)
  rw [eW]
  refine .f (decide_eq_false (by omega)) (.f (decide_eq_false (by omega)) ?_)
  exact .t a1 (.t a4 (.t (by rw [show [[AV.i IntKind.i64 w, AV.i IntKind.i64 m]] = one w m from rfl, a2]; rfl) (.t (by rw [show [[AV.i IntKind.i64 w, AV.i IntKind.i64 m]] = one w m from rfl, a5]; rfl)
    (.t (by rw [show [[AV.i IntKind.i64 w, AV.i IntKind.i64 m]] = one w m from rfl, a3]; simp) (.t (by rw [show [[AV.i IntKind.i64 w, AV.i IntKind.i64 m]] = one w m from rfl, a6]; simp) rfl)))))
end Go.Proofs.Ytkdiaipaajgcbaa

set_option maxRecDepth 100000
set_option linter.unusedVariables false
namespace Go.Proofs.Ytkdiaipaajgcbaa
open Go Go.Ev
theorem u16_of {a : AV} (h : TyArg Try.prog 32 a) : ∃ x, a = .i .u16 x ∧ 0 ≤ x ∧ x ≤ 65535 := by
  obtain ⟨n, e, n1, n2⟩ := WT_int (ty_one (c := .int .u16) (by kernel_rfl) (by kernel_rfl) h)
  exact ⟨n, e, n1, n2⟩
theorem u8_of {a : AV} (h : TyArg Try.prog 5 a) : ∃ x, a = .i .u8 x ∧ 0 ≤ x ∧ x ≤ 255 := by
  obtain ⟨n, e, n1, n2⟩ := WT_int (ty_one (c := .int .u8) (by kernel_rfl) (by kernel_rfl) h)
  exact ⟨n, e, n1, n2⟩
theorem custom_of {a : AV} (h : TyArg Try.prog 29 a) : ∃ x0 x1 x2 x3 x4 x5 x6 x7, a = .agg [.i .i64 x0, .i .i64 x1, .i .i64 x2, .i .i64 x3, .i .i64 x4, .i .i64 x5, .i .i64 x6, .i .i64 x7] := by
  obtain ⟨bs, rfl, hw⟩ := ty_agg (c := [.int .i64, .int .i64, .int .i64, .int .i64, .int .i64, .int .i64, .int .i64, .int .i64]) (by kernel_rfl) (by kernel_rfl) h
  obtain ⟨b0, q0, rfl, w0, hw⟩ := WTs_cons hw
  obtain ⟨b1, q1, rfl, w1, hw⟩ := WTs_cons hw
  obtain ⟨b2, q2, rfl, w2, hw⟩ := WTs_cons hw
  obtain ⟨b3, q3, rfl, w3, hw⟩ := WTs_cons hw
  obtain ⟨b4, q4, rfl, w4, hw⟩ := WTs_cons hw
  obtain ⟨b5, q5, rfl, w5, hw⟩ := WTs_cons hw
  obtain ⟨b6, q6, rfl, w6, hw⟩ := WTs_cons hw
  obtain ⟨b7, q7, rfl, w7, hw⟩ := WTs_cons hw
  obtain rfl := WTs_nil hw
  obtain ⟨x0, rfl, _⟩ := WT_int w0
  obtain ⟨x1, rfl, _⟩ := WT_int w1
  obtain ⟨x2, rfl, _⟩ := WT_int w2
  obtain ⟨x3, rfl, _⟩ := WT_int w3
  obtain ⟨x4, rfl, _⟩ := WT_int w4
  obtain ⟨x5, rfl, _⟩ := WT_int w5
  obtain ⟨x6, rfl, _⟩ := WT_int w6
  obtain ⟨x7, rfl, _⟩ := WT_int w7
  exact ⟨x0, x1, x2, x3, x4, x5, x6, x7, rfl⟩
theorem make_of {a : AV} (h : TyArg Try.prog 31 a) : ∃ x0 x1 x2 x3, a = .agg [.i .i64 x0, .i .i64 x1, .i .i64 x2, .i .i64 x3] := by
  obtain ⟨bs, rfl, hw⟩ := ty_agg (c := [.int .i64, .int .i64, .int .i64, .int .i64]) (by kernel_rfl) (by kernel_rfl) h
  obtain ⟨b0, q0, rfl, w0, hw⟩ := WTs_cons hw
  obtain ⟨b1, q1, rfl, w1, hw⟩ := WTs_cons hw
  obtain ⟨b2, q2, rfl, w2, hw⟩ := WTs_cons hw
  obtain ⟨b3, q3, rfl, w3, hw⟩ := WTs_cons hw
  obtain rfl := WTs_nil hw
  obtain ⟨x0, rfl, _⟩ := WT_int w0
  obtain ⟨x1, rfl, _⟩ := WT_int w1
  obtain ⟨x2, rfl, _⟩ := WT_int w2
  obtain ⟨x3, rfl, _⟩ := WT_int w3
  exact ⟨x0, x1, x2, x3, rfl⟩
theorem area_of {a : AV} (h : TyArg Try.prog 25 a) : ∃ os hs, a = .agg [.rs 42 os, .rs 106 hs] ∧ ∀ x, x ∈ os → ∃ u v, x = [.i .i64 u, .i .i64 v] ∧ (IntKind.i64.min ≤ u ∧ u ≤ IntKind.i64.max) ∧ (IntKind.i64.min ≤ v ∧ v ≤ IntKind.i64.max) := by
  obtain ⟨bs, rfl, hw⟩ := ty_agg (c := [.sl 42, .sl 106]) (by kernel_rfl) (by kernel_rfl) h
  obtain ⟨b0, q0, rfl, w0, hw⟩ := WTs_cons hw
  obtain ⟨b1, q1, rfl, w1, hw⟩ := WTs_cons hw
  obtain rfl := WTs_nil hw
  obtain ⟨os, rfl, r4, r5, r6⟩ := WT_sl w0
  obtain ⟨hs, rfl, _⟩ := WT_sl w1
  refine ⟨os, hs, rfl, fun x hx => ?_⟩
  have e : cts Try.prog 42 = [.int .i64, .int .i64] := by kernel_rfl
  have hl := r5 x hx
  have hc := r6 x hx
  rw [e] at hl hc
  match x, hl with
  | [a, b], _ =>
    obtain ⟨u, rfl, u1⟩ := WT_int (show WT Try.prog (.int .i64) a from hc 0 (by simp))
    obtain ⟨v, rfl, v1⟩ := WT_int (show WT Try.prog (.int .i64) b from hc 1 (by simp))
    exact ⟨u, v, rfl, u1, v1⟩
theorem sides_plain {os : List (List AV)} (h : ∀ x, x ∈ os → ∃ u v, x = [.i .i64 u, .i .i64 v] ∧ (IntKind.i64.min ≤ u ∧ u ≤ IntKind.i64.max) ∧ (IntKind.i64.min ≤ v ∧ v ≤ IntKind.i64.max)) : (sidesX os).all (fun x => plainL (encS x)) = true := by
  have key : ∀ i k, IntKind.i64.min ≤ fI (os.getD i []) k ∧ fI (os.getD i []) k ≤ IntKind.i64.max := by
    intro i k
    by_cases hi : i < os.length
    · obtain ⟨u, v, e, hu, hv⟩ := h (os.getD i []) (by simp [List.getD_eq_getElem?_getD, List.getElem?_eq_getElem hi])
      rw [e]
      match k with
      | 0 => exact hu
      | 1 => exact hv
      | k + 2 =>
        rw [show fI [AV.i .i64 u, AV.i .i64 v] (k + 2) = 0 from rfl]
        decide
    · rw [show os.getD i [] = [] by simp [List.getD_eq_getElem?_getD, List.getElem?_eq_none (show os.length ≤ i by omega)]]
      rw [show fI [] k = 0 from rfl]
      decide
  refine List.all_eq_true.2 fun x hx => ?_
  obtain ⟨i, _, rfl⟩ := List.mem_map.1 hx
  have p : ∀ i k, plain (.i .i64 (fI (os.getD i []) k)) = true := fun i k => by
    have := key i k
    simp only [plain, Bool.and_eq_true, decide_eq_true_eq]
    exact this
  generalize (i + 1) % os.length = j
  show (true && (plain (.i .i64 (fI (os.getD i []) 0)) && (plain (.i .i64 (fI (os.getD i []) 1)) && true)) && ((plain (.i .i64 (fI (os.getD j []) 0)) && (plain (.i .i64 (fI (os.getD j []) 1)) && true)) && true)) = true
  rw [p, p, p, p]
  rfl
theorem ridgeSways_law (avs : List AV) (h : TyArgs Try.prog Try.f3.params.toList avs) : Con Try.prog 3 avs [] (.b true) [] := by
  obtain ⟨a0, r0, rfl, h0, h⟩ := tyArgs_cons h
  obtain ⟨a1, r1, rfl, h1, h⟩ := tyArgs_cons h
  obtain ⟨a2, r2, rfl, h2, h⟩ := tyArgs_cons h
  obtain ⟨a3, r3, rfl, h3, h⟩ := tyArgs_cons h
  obtain ⟨a4, r4, rfl, h4, h⟩ := tyArgs_cons h
  obtain rfl := tyArgs_nil h
  obtain ⟨os, hs, rfl, ho⟩ := area_of h0
  obtain ⟨c0, c1, c2, c3, c4, c5, c6, c7, rfl⟩ := custom_of h1
  obtain ⟨k0, k1, k2, k3, rfl⟩ := make_of h2
  obtain ⟨x, rfl, x1⟩ := u16_of h3
  obtain ⟨y, rfl, y1⟩ := u8_of h4
  obtain ⟨h1, h2⟩ := sways_law (hs := hs) (ly := c0) (el := c1) (eh := c2) (gl := c3) (gh := c4) (sd := c5) (br := c6) (ln := c7) (kw := k0) (kl := k1) (kt := k2) (kh := k3) (sides_plain ho) x1 y1
  have := con3y os hs c0 c1 c2 c3 c4 c5 c6 c7 k0 k1 k2 k3 x y h1
  rw [h2] at this
  exact this
end Go.Proofs.Ytkdiaipaajgcbaa
