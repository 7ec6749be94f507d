/-
  The law RidgeFibonacci of the roofer's ridges answers true whatever byte it is handed; no conditions.
-/
import Derived.Test.YtgifjphinkbcaaaRa
import Derived.Test.YtgifjphinkbcaaaEvd
set_option linter.unusedVariables false
set_option maxRecDepth 100000
set_option linter.unusedVariables false
set_option linter.unusedSimpArgs false
namespace Go.Proofs.Ytgifjphinkbcaaa
open Go Go.Ev
noncomputable def bd89 : Code := match Try.f89.body with | some c => c | _ => .skip
noncomputable def at89 (p : List Bool) : Code := match locate bd89 p with | some c => c | _ => .skip
noncomputable def q0 : Code := at89 [false]
noncomputable def q1 : Code := at89 [true, false, false]
noncomputable def q2 : Code := at89 [true, false, true, false, false]
noncomputable def q3 : Code := at89 [true, true, false]
noncomputable def q4 : Code := at89 [true, true, true, false, false]
noncomputable def qB : Code := match at89 [true, true, true, false, true, false] with | .loop c => c | _ => .skip
noncomputable def atB (p : List Bool) : Code := match locate qB p with | some c => c | _ => .skip
noncomputable def q5 : Code := atB [false, false]
noncomputable def q7 : Code := atB [true, false, false, false, false]
noncomputable def q8 : Code := atB [true, false, false, false, true, false, false]
noncomputable def q9 : Code := atB [true, false, false, true]
noncomputable def q6 : Code := atB [true, true]
noncomputable def q10 : Code := at89 [true, true, true, true, false]
noncomputable def q11 : Code := at89 [true, true, true, true, true, false]
theorem bd89_eq : bd89 = .seq q0 (.seq (.seq q1 (.cond (.tmp 15) (.seq q2 .ret) .skip)) (.seq q3 (.seq (.seq q4 (.block 0 (.loop qB))) (.seq q10 (.seq q11 .ret))))) := by kernel_rfl
theorem qB_eq : qB = .seq (.seq q5 (.cond (.tmp 40) .skip (.exit 0))) (.seq (.block 1 (.seq (.seq q7 (.cond (.tmp 51) (.seq q8 .ret) .skip)) q9)) q6) := by kernel_rfl
noncomputable def ops2 : Array Oper := match q2 with | .region _ o _ => o | _ => #[]
noncomputable def ops7 : Array Oper := match q7 with | .region _ o _ => o | _ => #[]
def rpR (da db : Int) (cs : List (List AV)) : AV := .rp [.int .i64, .int .i64, .sl 64] [.i .i64 da, .i .i64 db, .rs 64 cs] 0
def rpY (l : Nat) : AV := .rp [.oth] [.yl l] 0
def rpM (q0 q1 q2 q3 q4 q5 q6 q7 : Int) : AV := .rp [.int .i64, .int .i64, .int .i64, .int .i64, .int .i64, .int .i64, .int .i64, .int .i64] [.i .i64 q0, .i .i64 q1, .i .i64 q2, .i .i64 q3, .i .i64 q4, .i .i64 q5, .i .i64 q6, .i .i64 q7] 0
/-- One piece, and what is kept behind it. -/
noncomputable def piece (c : Code) (ts : List Nat) (st : St) : Option (Ex × List AV × Blk) := evC Try.prog S0 (ro 89) (fun _ _ => none) c [] st fun e s => some (e, ts.map (gt s.t), gm s.m 0)
noncomputable def pieceB (ops : Array Oper) (k : Nat) (ts : List Nat) (st : St) : Option (List AV × Blk) := evOpsB Try.prog S0 (ro 89) ops st.nx (ops.toList.take k) 0 st fun s => some (ts.map (gt s.t), gm s.m 0)
/-- At a head. -/
noncomputable def stH (vs : List AV) (X : List AV) : St := { t := [0, 1, 2, 3, 4, 5, 6, 10].zip vs, m := [(0, .row 104 [X])], nx := 1, nt := 57 }
noncomputable def st0 (j room : Int) (v2 v3 v5 v6 : AV) (X : List AV) : St := initSt 57 [.i .i64 j, .i .i64 room, v2, v3, .p 0 0 0, v5, v6] [.row 104 [X]]
end Go.Proofs.Ytgifjphinkbcaaa

set_option maxRecDepth 100000
set_option linter.unusedVariables false
set_option linter.unusedSimpArgs false
namespace Go.Ev
open Go
variable {P : Program} {S : Spec} {RO : Nat → Bool} {L : LSpec} {X : Nat → Nat → Prop} {R : Nat → Option (Nat × Nat × Nat)} {st : St} {a : Act} {w : World} {n : Nat} {Q : Exit → Act → World → Prop}
theorem gt_zip {D : Nat → Nat → Prop} {f : Nat → Value} : ∀ (ts : List Nat) (vs : List AV), (∀ k, k < ts.length → VR P D R w (vs.getD k .u) (f (ts.getD k 0))) → ∀ t, VR P D R w (gt (ts.zip vs) t) (f t)
  | [], vs, _, t => .u
  | a :: ts, [], _, t => .u
  | a :: ts, v :: vs, h, t => by
    simp only [List.zip_cons_cons, gt_cons]
    by_cases e : t = a
    · subst e
      simpa using h 0 (by simp)
    · simp only [e, if_false]
      exact gt_zip ts vs (fun k hk => by simpa using h (k + 1) (by simpa using hk)) t
theorem piece_sound (hs : SpecOK P S) (hm : P.follows .mixedOrders = true) {b0 : Nat} {s0 : Nat × Nat} (hR00 : R 0 = some (b0, s0)) (h : SR P ⟨w, rowsOf R, fun id => id < 1, w.heap.size, Nat.le_refl _⟩ (XR X R) (XR X R) R st a w)
    (hf : Fresh R st.nx) (hnx : 1 ≤ st.nx) {c : Code} (hL : LOK P S RO L 1 true c []) {ts : List Nat} {e0 : Ex} {vs : List AV} {e : TypeId} {es : List (List AV)} (hes : es ≠ [])
    (he : (evC P S RO L c [] st fun e s => some (e, ts.map (gt s.t), gm s.m 0)) = some (e0, vs, .row e es)) (hfr : freeL P 1 vs = true) (hfb : freeB P 1 (.row e es) = true)
    (hn : ∀ a' w', LeftP P X R st a w ts vs (.row e es) a' w' → Q e0.exit a' w') : c.wpIn (FW none) n P Q a w := by
  refine evC_sound hs hm c [] 1 true none n hL (fun h => by cases h) h hf hnx he fun D' R' e' st' a' w' hS hf' hRR hd _ ht hK => ?_
  simp only [Option.some.injEq, Prod.mk.injEq] at hK
  obtain ⟨rfl, rfl, hrow⟩ := hK
  exact hn a' w' (left_of hR00 hes hS hRR (hd rfl) ht hfr hrow hfb)
theorem pieceB_sound (hs : SpecOK P S) {b0 : Nat} {s0 : Nat × Nat} (hR00 : R 0 = some (b0, s0)) (h : SR P ⟨w, rowsOf R, fun id => id < 1, w.heap.size, Nat.le_refl _⟩ (XR X R) (XR X R) R st a w)
    (hf : Fresh R st.nx) (hnx : 1 ≤ st.nx) {ops : Array Oper} {k : Nat} {rest : List Nat} (hk : k ≤ ops.size) {ts : List Nat} {vs : List AV} {e : TypeId} {es : List (List AV)} (hes : es ≠ [])
    (he : (evOpsB P S RO ops st.nx (ops.toList.take k) 0 st fun s => some (ts.map (gt s.t), gm s.m 0)) = some (vs, .row e es)) (hfr : freeL P 1 vs = true) (hfb : freeB P 1 (.row e es) = true)
    (hn : ∀ a' w', LeftP P X R st a w ts vs (.row e es) a' w' → wpOpsIn (FW none) n P ops Q rest a' w') : wpOpsIn (FW none) n P ops Q (List.range' 0 k ++ rest) a w := by
  have hl : (ops.toList.take k).length = k := by simp; omega
  rw [← hl]
  refine evOpsB_cut hs (ops.toList.take k) 0 (fun i hi => ?_) h (by simpa using hf) he fun D' R' st' a' w' hS hf' hRR hd hx ht hK => ?_
  · rw [hl] at hi
    simp [List.getElem?_take, hi]
  · simp only [Option.some.injEq, Prod.mk.injEq] at hK
    obtain ⟨rfl, hrow⟩ := hK
    exact hn a' w' (left_of hR00 hes hS (fun id hid => .inl (hRR id (by omega))) hd ht hfr hrow hfb)
/-- Cells that others may not write stay. -/
def GoodW (X : Nat → Nat → Prop) (R : Nat → Option (Nat × Nat × Nat)) (W W' : World) : Prop := W.heap.size ≤ W'.heap.size ∧ ∀ b o u, ¬ XR X R b o → W.cell? ⟨b, o, none⟩ = some u → W'.cell? ⟨b, o, none⟩ = some u
theorem GoodW.refl {W : World} : GoodW X R W W := ⟨Nat.le_refl _, fun _ _ _ _ h => h⟩
theorem GoodW.trans {W W' W'' : World} (h : GoodW X R W W') (h' : GoodW X R W' W'') : GoodW X R W W'' := ⟨Nat.le_trans h.1 h'.1, fun b o u hd hc => h'.2 b o u hd (h.2 b o u hd hc)⟩
theorem GoodW.VR {W W' : World} (h : GoodW X R W W') {x : AV} {v : Value} (hv : VR P (XR X R) R W x v) : VR P (XR X R) R W' x v := hv.mono' (fun _ _ e => e) fun b o u hd hc => ⟨hd, h.2 b o u hd hc⟩
theorem good_below {W W' : World} (h : BelowY ⟨W, rowsOf R, fun id => id < 1, W.heap.size, Nat.le_refl _⟩ W') : GoodW X R W W' := by
  refine ⟨h.size, fun b o u hd hc => ?_⟩
  have hb : b < W.heap.size := by
    obtain ⟨ob, h5, _⟩ := cells_of_cell hc
    exact (Array.getElem?_eq_some_iff.1 h5).1
  exact (World.cell?_of_block (h.block b hb fun hr => hd (.inr hr))).trans hc
theorem good_kp {Y : Nat → Prop} {W W' : World} (h : KpOf Y W W') (hY : ∀ b o, Y b → X b o) : GoodW X R W W' := by
  refine ⟨h.size, fun b o u hd hc => ?_⟩
  obtain ⟨ob, h5, h6⟩ := cells_of_cell hc
  exact (World.cell?_of_block ((h.same b ob h5 h6 fun hy => hd (.inl (hY b o hy))).trans h5.symm)).trans hc
theorem row_kp {Y : Nat → Prop} {W W' : World} (h : KpOf Y W W') (hY : ∀ b o, Y b → X b o) (hX : ∀ b s o, R 0 = some (b, s) → ¬ X b o) {e : TypeId} {es : List (List AV)} (hr : RowOK P (XR X R) R W 0 (.row e es)) : RowOK P (XR X R) R W' 0 (.row e es) := by
  intro hne
  obtain ⟨b, cells, ty, g1, g2, g3, g4, g5, g6, g7⟩ := hr hne
  refine ⟨b, cells, ty, g1, (h.same b _ g2 rfl fun hy => hX b _ 0 g1 (hY b 0 hy)), g3, g4, g5, g6, fun i j hi hj => ?_⟩
  obtain ⟨v, k1, k2⟩ := g7 i j hi hj
  exact ⟨v, k1, (good_kp h hY).VR k2⟩
end Go.Ev

set_option maxRecDepth 100000
set_option linter.unusedVariables false
set_option linter.unusedSimpArgs false
namespace Go.Proofs.Ytgifjphinkbcaaa
open Go Go.Ev
abbrev ts8 : List Nat := [0, 1, 2, 3, 4, 5, 6, 10]
abbrev rw0 (X : List AV) : Blk := .row 104 [X]
noncomputable def o2a : Oper := (ops2[2]?).getD default
noncomputable def o2b : Oper := (ops2[3]?).getD default
noncomputable def o7a : Oper := (ops7[4]?).getD default
noncomputable def o7b : Oper := (ops7[5]?).getD default
theorem o2a_at : ops2[2]? = some o2a := by kernel_rfl
theorem o2a_op : o2a.op = .call { callee := .value (.tmp 16), args := #[.tmp 17], argTypes := #[104] } := by kernel_rfl
theorem o2a_g : o2a.guard = none := by kernel_rfl
theorem o2a_d : o2a.dst = some 18 := by kernel_rfl
theorem o2b_at : ops2[3]? = some o2b := by kernel_rfl
theorem o2b_op : o2b.op = .assign (.tmp 18) := by kernel_rfl
theorem o2b_g : o2b.guard = none := by kernel_rfl
theorem o2b_d : o2b.dst = some 9 := by kernel_rfl
theorem o7a_at : ops7[4]? = some o7a := by kernel_rfl
theorem o7a_op : o7a.op = .call { callee := .value (.tmp 46), args := #[.tmp 48, .tmp 49], argTypes := #[3, 3] } := by kernel_rfl
theorem o7a_g : o7a.guard = none := by kernel_rfl
theorem o7a_d : o7a.dst = some 50 := by kernel_rfl
theorem o7b_at : ops7[5]? = some o7b := by kernel_rfl
theorem o7b_op : o7b.op = .unOp .not 4 (.tmp 50) := by kernel_rfl
theorem o7b_g : o7b.guard = none := by kernel_rfl
theorem o7b_d : o7b.dst = some 51 := by kernel_rfl
theorem q2_eq : q2 = .region 2 ops2 false := by kernel_rfl
theorem q7_eq : q7 = .region 7 ops7 false := by kernel_rfl
theorem sz2 : ops2.size = 4 := by kernel_rfl
theorem sz7 : ops7.size = 6 := by kernel_rfl
theorem body89 : Try.f89.body = some bd89 := by kernel_rfl
theorem res89 : Try.f89.results = #[.tmp 9] := by kernel_rfl
theorem lokP (c : Code) (h : (match c with | .region _ _ _ => true | .seq (.region _ _ _) (.region _ _ _) => true | _ => false) = true) : LOK Try.prog S0 (ro 89) (fun _ _ => none) 1 true c [] := by
  split at h
  · trivial
  · exact ⟨trivial, trivial⟩
  · cases h
variable (da db : Int) (cs : List (List AV)) (m0 m1 m2 m3 m4 m5 m6 m7 : Int) (j room w : Int) (l : Nat) (v6 v10 : AV) (X : List AV)
/-- The temporaries at a head. -/
noncomputable def vH (j room : Int) (v6 v10 : AV) : List AV := [.i .i64 j, .i .i64 room, rpR da db cs, rpY l, .p 0 0 0, rpM m0 m1 m2 m3 m4 m5 m6 m7, v6, v10]
noncomputable def fn89 (v6 : AV) : AV := .fn 89 [rpR da db cs, rpY l, .p 0 0 0, rpM m0 m1 m2 m3 m4 m5 m6 m7, v6]
noncomputable def gj (j : Int) : Bool := ctsAt (cts Try.prog 104) (0 + j.toNat * 1) (cts Try.prog 3)
theorem pe0 : piece q0 ts8 (st0 j room (rpR da db cs) (rpY l) (rpM m0 m1 m2 m3 m4 m5 m6 m7) v6 X) = some (.nrm, vH da db cs m0 m1 m2 m3 m4 m5 m6 m7 l j room v6 .u, rw0 X) := by kernel_rfl
theorem pe1 : piece q1 [0, 1, 2, 3, 4, 5, 6, 10, 15] (stH (vH da db cs m0 m1 m2 m3 m4 m5 m6 m7 l j room v6 .u) X) = some (.nrm, vH da db cs m0 m1 m2 m3 m4 m5 m6 m7 l j room v6 .u ++ [.b (j == (cs.length : Int))], rw0 X) := by kernel_rfl
theorem pe2 : pieceB ops2 2 [16, 17] (stH (vH da db cs m0 m1 m2 m3 m4 m5 m6 m7 l j room v6 .u) X) = some ([.yl l, .agg [.i .i64 (fI X 0), .i .i64 (fI X 1), .i .i64 (fI X 2), .i .i64 (fI X 3), .i .i64 (fI X 4), .i .i64 (fI X 5), .i .i64 (fI X 6), .i .i64 (fI X 7)]], rw0 X) := by kernel_rfl
theorem pe3 : piece q3 ts8 (stH (vH da db cs m0 m1 m2 m3 m4 m5 m6 m7 l j room v6 .u) X) = cond (inb j cs.length) (some (.nrm, vH da db cs m0 m1 m2 m3 m4 m5 m6 m7 l j room v6 (.i .i64 (IntKind.i64.wrap (fI (cs.getD j.toNat []) 0 + db))), rw0 X)) none := by kernel_rfl
theorem pe4 : piece q4 ts8 (stH (vH da db cs m0 m1 m2 m3 m4 m5 m6 m7 l j room v6 (.i .i64 w)) X) = cond (inb j 8) (cond (gj j && Nat.blt 0 1) (some (.nrm, vH da db cs m0 m1 m2 m3 m4 m5 m6 m7 l j room v6 (.i .i64 w), rw0 (setCs X (0 + j.toNat * 1) [.i .i64 0]))) none) none := by kernel_rfl
theorem pe5 : piece q5 [0, 1, 2, 3, 4, 5, 6, 10, 40] (stH (vH da db cs m0 m1 m2 m3 m4 m5 m6 m7 l j room v6 (.i .i64 w)) X) = cond (inb j 8) (cond (gj j && Nat.blt 0 1) (cond (inb j 8) (cond (ctsAt [CT.int IntKind.i64, CT.int IntKind.i64, CT.int IntKind.i64, CT.int IntKind.i64, CT.int IntKind.i64, CT.int IntKind.i64, CT.int IntKind.i64, CT.int IntKind.i64] (0 + j.toNat * 1) (cts Try.prog 3))
    (cond (decide (fI X (0 + j.toNat * 1) ≤ fI [AV.i IntKind.i64 m0, AV.i IntKind.i64 m1, AV.i IntKind.i64 m2, AV.i IntKind.i64 m3, AV.i IntKind.i64 m4, AV.i IntKind.i64 m5, AV.i IntKind.i64 m6, AV.i IntKind.i64 m7] (0 + j.toNat * 1)))
      (some (.nrm, vH da db cs m0 m1 m2 m3 m4 m5 m6 m7 l j room v6 (.i .i64 w) ++ [.b (decide (room ≥ 0))], rw0 X)) (some (.nrm, vH da db cs m0 m1 m2 m3 m4 m5 m6 m7 l j room v6 (.i .i64 w) ++ [.b false], rw0 X))) none) none) none) none := by kernel_rfl
theorem pe7 : pieceB ops7 4 [0, 1, 2, 3, 4, 5, 6, 10, 46, 48, 49] (stH (vH da db cs m0 m1 m2 m3 m4 m5 m6 m7 l j room (.rp [.oth] [fn89 da db cs m0 m1 m2 m3 m4 m5 m6 m7 l v6] 0) (.i .i64 w)) X) =
    some (vH da db cs m0 m1 m2 m3 m4 m5 m6 m7 l j room (.rp [.oth] [fn89 da db cs m0 m1 m2 m3 m4 m5 m6 m7 l v6] 0) (.i .i64 w) ++ [fn89 da db cs m0 m1 m2 m3 m4 m5 m6 m7 l v6, .i .i64 (IntKind.i64.wrap (j + 1)), .i .i64 room], rw0 X) := by kernel_rfl
theorem pe8 : piece q8 [9] (stH (vH da db cs m0 m1 m2 m3 m4 m5 m6 m7 l j room v6 (.i .i64 w)) X) = some (.nrm, [.b false], rw0 X) := by kernel_rfl
theorem pe9 : piece q9 ts8 (stH (vH da db cs m0 m1 m2 m3 m4 m5 m6 m7 l j room v6 (.i .i64 w)) X) = some (.nrm, vH da db cs m0 m1 m2 m3 m4 m5 m6 m7 l j (IntKind.i64.wrap (room - w)) v6 (.i .i64 w), rw0 X) := by kernel_rfl
theorem pe6 : piece q6 ts8 (stH (vH da db cs m0 m1 m2 m3 m4 m5 m6 m7 l j room v6 (.i .i64 w)) X) = cond (inb j 8) (cond (gj j && Nat.blt 0 1) (cond (inb j 8) (cond (gj j && Nat.blt 0 1) (some (.nrm, vH da db cs m0 m1 m2 m3 m4 m5 m6 m7 l j room v6 (.i .i64 w), rw0 (setCs X (0 + j.toNat * 1) [.i .i64 (IntKind.i64.wrap (fI X (0 + j.toNat * 1) + 1))]))) none) none) none) none := by kernel_rfl
theorem peA : piece q10 ts8 (stH (vH da db cs m0 m1 m2 m3 m4 m5 m6 m7 l j room v6 (.i .i64 w)) X) = cond (inb j 8) (cond (gj j && Nat.blt 0 1) (some (.nrm, vH da db cs m0 m1 m2 m3 m4 m5 m6 m7 l j room v6 (.i .i64 w), rw0 (setCs X (0 + j.toNat * 1) [.i .i64 0]))) none) none := by kernel_rfl
theorem peB : piece q11 [9] (stH (vH da db cs m0 m1 m2 m3 m4 m5 m6 m7 l j room v6 (.i .i64 w)) X) = some (.nrm, [.b true], rw0 X) := by kernel_rfl

theorem fr8 (h : free Try.prog 1 v6 = true) (h' : free Try.prog 1 v10 = true) : freeL Try.prog 1 (vH da db cs m0 m1 m2 m3 m4 m5 m6 m7 l j room v6 v10) = true := by
  have : freeL Try.prog 1 (vH da db cs m0 m1 m2 m3 m4 m5 m6 m7 l j room v6 v10) = (free Try.prog 1 v6 && (free Try.prog 1 v10 && true)) := by kernel_rfl
  rw [this, h, h']; rfl
theorem frB (X : List AV) : freeB Try.prog 1 (rw0 X) = true := by kernel_rfl
theorem gj_at {k : Nat} (h : k < 8) : inb ((k : Nat) : Int) 8 = true ∧ gj k = true ∧ ctsAt [CT.int IntKind.i64, CT.int IntKind.i64, CT.int IntKind.i64, CT.int IntKind.i64, CT.int IntKind.i64, CT.int IntKind.i64, CT.int IntKind.i64, CT.int IntKind.i64] (0 + (k : Int).toNat * 1) (cts Try.prog 3) = true := by
  rcases k with _ | _ | _ | _ | _ | _ | _ | _ | k
  all_goals first | (exfalso; omega) | (exact ⟨by kernel_rfl, by kernel_rfl, by kernel_rfl⟩)
end Go.Proofs.Ytgifjphinkbcaaa

set_option maxRecDepth 100000
set_option linter.unusedVariables false
set_option linter.unusedSimpArgs false
namespace Go.Proofs.Ytgifjphinkbcaaa
open Go Go.Ev Go.RowKit
/-- What an array of eight hands over. -/
def ag8 (X : List AV) : AV := .agg [.i .i64 (fI X 0), .i .i64 (fI X 1), .i .i64 (fI X 2), .i .i64 (fI X 3), .i .i64 (fI X 4), .i .i64 (fI X 5), .i .i64 (fI X 6), .i .i64 (fI X 7)]
def enc8 (X : List AV) : List AV := [ag8 X]
def wid (db : Int) (cs : List (List AV)) (j : Nat) : Int := IntKind.i64.wrap (fI (cs.getD j []) 0 + db)
/-- The patterns, one behind the other: 'false': from a place on; 'true': from a count at a place on. -/
inductive PT (db : Int) (cs : List (List AV)) (ms : List AV) : Bool → Nat → Int → List AV → List (List AV) → List AV → Prop
  | leaf {room : Int} {X : List AV} : PT db cs ms false cs.length room X [enc8 X] X
  | node {j : Nat} {room : Int} {X X' : List AV} {l : List (List AV)} : j < cs.length → j < 8 → PT db cs ms true j room (setCs X j [.i .i64 0]) l X' → PT db cs ms false j room X l (setCs X' j [.i .i64 0])
  | stop {j : Nat} {room : Int} {X : List AV} : (decide (fI X j ≤ fI ms j) && decide (room ≥ 0)) = false → PT db cs ms true j room X [] X
  | step {j : Nat} {room : Int} {X X1 X2 : List AV} {l1 l2 : List (List AV)} : fI X j ≤ fI ms j → 0 ≤ room → PT db cs ms false (j + 1) room X l1 X1 →
      PT db cs ms true j (IntKind.i64.wrap (room - wid db cs j)) (setCs X1 j [.i .i64 (IntKind.i64.wrap (fI X1 j + 1))]) l2 X2 → PT db cs ms true j room X (l1 ++ l2) X2

/-- Around the iterator. -/
structure Env (l : Nat) (X : Nat → Nat → Prop) (Y : Nat → Prop) (R : Nat → Option (Nat × Nat × Nat)) (pb : Nat) (xs : List (List AV)) (J : (Nat → Prop) → Nat → World → Prop) (Jx : (Nat → Prop) → World → Prop) : Prop where
  R0 : R 0 = some (pb, 8, 0)
  R1 : ∀ id, 1 ≤ id → R id = none
  YX : ∀ b o, Y b → X b o
  pX : ∀ o, ¬ X pb o
  hJ : ∀ Z i W W', J Z i W → BelowZ Z W W' → J (fun b => Z b ∨ (W.heap.size ≤ b ∧ b < W'.heap.size)) i W'
  yield : ∀ Z i x W m, J Z i W → xs[i]? = some x → YieldAt (FW none) m Try.prog l (encV x) W fun e W' => (e = .returned (.bool true) ∧ J Z (i + 1) W' ∧ KpOf Y W W') ∨ (e = .returned (.bool false) ∧ Jx Z W' ∧ KpOf Y W W')
/-- The world at a place. -/
structure At (l : Nat) (X : Nat → Nat → Prop) (R : Nat → Option (Nat × Nat × Nat)) (pb : Nat) (p : List AV) (W : World) : Prop where
  xl : ∀ b o, X b o → b < W.heap.size
  pl : pb < W.heap.size
  row : RowOK Try.prog (XR X R) R W 0 (rw0 p)

variable {da db : Int} {cs : List (List AV)} {m0 m1 m2 m3 m4 m5 m6 m7 : Int} {l : Nat} {X : Nat → Nat → Prop} {Y : Nat → Prop} {R : Nat → Option (Nat × Nat × Nat)} {pb : Nat} {xs : List (List AV)} {J : (Nat → Prop) → Nat → World → Prop} {Jx : (Nat → Prop) → World → Prop}
noncomputable def RP (da db : Int) (cs : List (List AV)) (m0 m1 m2 m3 m4 m5 m6 m7 : Int) (l : Nat) : Nat → AV
  | 0 => .u
  | d + 1 => .rp [.oth] [fn89 da db cs m0 m1 m2 m3 m4 m5 m6 m7 l (RP da db cs m0 m1 m2 m3 m4 m5 m6 m7 l d)] 0
theorem RP_free : ∀ d, free Try.prog 1 (RP da db cs m0 m1 m2 m3 m4 m5 m6 m7 l d) = true
  | 0 => rfl
  | d + 1 => by
    have : free Try.prog 1 (RP da db cs m0 m1 m2 m3 m4 m5 m6 m7 l (d + 1)) = (free Try.prog 1 (RP da db cs m0 m1 m2 m3 m4 m5 m6 m7 l d) && true && true) := by kernel_rfl
    rw [this, RP_free d]; rfl
/-- At a head. -/
structure Hd (da db : Int) (cs : List (List AV)) (m0 m1 m2 m3 m4 m5 m6 m7 : Int) (l : Nat) (X : Nat → Nat → Prop) (R : Nat → Option (Nat × Nat × Nat)) (pb : Nat) (j room : Int) (v6 v10 : AV) (p : List AV) (a : Act) (W : World) : Prop where
  at_ : At l X R pb p W
  tmp : ∀ k, k < 8 → VR Try.prog (XR X R) R W ((vH da db cs m0 m1 m2 m3 m4 m5 m6 m7 l j room v6 v10).getD k .u) (a.tmps.getD (ts8.getD k 0) undef)
  nt : a.tmps.size = 57
  df : a.defers = []
theorem Hd.sr {j room : Int} {v6 v10 : AV} {p : List AV} {a : Act} {W : World} (E : Env l X Y R pb xs J Jx) (h : Hd da db cs m0 m1 m2 m3 m4 m5 m6 m7 l X R pb j room v6 v10 p a W) :
    SR Try.prog ⟨W, rowsOf R, fun id => id < 1, W.heap.size, Nat.le_refl _⟩ (XR X R) (XR X R) R (stH (vH da db cs m0 m1 m2 m3 m4 m5 m6 m7 l j room v6 v10) p) a W := by
  refine mkSR E.R1 (fun id b s e => ?_) h.at_.xl (fun t => ?_) h.nt rfl (fun id hid => ?_) h.at_.row h.df
  · rcases Nat.eq_zero_or_pos id with e0 | e0
    · rw [e0, E.R0] at e; cases e; exact ⟨h.at_.pl, by simp⟩
    · rw [E.R1 id e0] at e; cases e
  · exact gt_zip (f := fun t => a.tmps.getD t undef) ts8 _ (fun k hk => h.tmp k hk) t
  · cases id with
    | zero => omega
    | succ id => rfl
theorem Hd.fresh (E : Env l X Y R pb xs J Jx) : Fresh R 1 := fun id hid => E.R1 id hid
/-- Behind a piece. -/
theorem At.left {p p' : List AV} {W W' : World} {st : St} {a a' : Act} {ts : List Nat} {vs : List AV} (h : At l X R pb p W) (k : LeftP Try.prog X R st a W ts vs (rw0 p') a' W') : At l X R pb p' W' :=
  ⟨fun b o hx => Nat.lt_of_lt_of_le (h.xl b o hx) k.below.size, Nat.lt_of_lt_of_le h.pl k.below.size, k.row⟩
theorem Hd.left {j room : Int} {v6 v10 : AV} {p p' : List AV} {W W' : World} {st : St} {a a' : Act} {ts : List Nat} {vs : List AV} (h : At l X R pb p W) (hts : ts.take 8 = ts8) (hvs : vs.take 8 = vH da db cs m0 m1 m2 m3 m4 m5 m6 m7 l j room v6 v10) (hnt : st.nt = 57) (hd : a.defers = [])
    (k : LeftP Try.prog X R st a W ts vs (rw0 p') a' W') : Hd da db cs m0 m1 m2 m3 m4 m5 m6 m7 l X R pb j room v6 v10 p' a' W' := by
  have hl : 8 ≤ ts.length := by have := congrArg List.length hts; simp at this; omega
  refine ⟨h.left k, fun i hi => ?_, k.nt.trans hnt, k.df.trans hd⟩
  have := k.tmp i (by omega)
  have e1 : vs.getD i .u = (vs.take 8).getD i .u := by simp [List.getD_eq_getElem?_getD, List.getElem?_take, hi]
  have e2 : ts.getD i 0 = (ts.take 8).getD i 0 := by simp [List.getD_eq_getElem?_getD, List.getElem?_take, hi]
  rw [e1, e2, hvs, hts] at this
  exact this
theorem belowZ {Z : Nat → Prop} (E : Env l X Y R pb xs J Jx) (hZ : Z pb) {W W' : World} (h : BelowY ⟨W, rowsOf R, fun id => id < 1, W.heap.size, Nat.le_refl _⟩ W') : BelowZ Z W W' :=
  ⟨h.os, h.tape, h.output, h.size, fun k hk hz => h.block k hk fun ⟨id, s, e⟩ => hz (by
    rcases Nat.eq_zero_or_pos id with e0 | e0
    · rw [e0, E.R0] at e; cases e; exact hZ
    · rw [E.R1 id e0] at e; cases e)⟩
/-- What is to be shown of a place. -/
def Done (l : Nat) (X : Nat → Nat → Prop) (R : Nat → Option (Nat × Nat × Nat)) (pb : Nat) (J : (Nat → Prop) → Nat → World → Prop) (Jx : (Nat → Prop) → World → Prop) (W : World) (n : Nat) (p' : List AV) (e : Ending) (W' : World) : Prop :=
  (e = .returned (.bool true) ∧ ∃ Z', Z' pb ∧ J Z' n W' ∧ At l X R pb p' W' ∧ GoodW X R W W') ∨ (e = .returned (.bool false) ∧ ∃ Z', Jx Z' W')
end Go.Proofs.Ytgifjphinkbcaaa

set_option maxRecDepth 100000
set_option linter.unusedVariables false
set_option linter.unusedSimpArgs false
namespace Go.Proofs.Ytgifjphinkbcaaa
open Go Go.Ev Go.RowKit
variable {da db : Int} {cs : List (List AV)} {m0 m1 m2 m3 m4 m5 m6 m7 : Int} {l : Nat} {X : Nat → Nat → Prop} {Y : Nat → Prop} {R : Nat → Option (Nat × Nat × Nat)} {pb : Nat} {xs : List (List AV)} {J : (Nat → Prop) → Nat → World → Prop} {Jx : (Nat → Prop) → World → Prop}

theorem freeL_app {nb : Nat} : ∀ {x y : List AV}, freeL Try.prog nb x = true → freeL Try.prog nb y = true → freeL Try.prog nb (x ++ y) = true
  | [], y, _, h => h
  | a :: x, y, h, h' => by
    simp only [freeL, Bool.and_eq_true, List.cons_append] at h ⊢
    exact ⟨h.1, freeL_app h.2 h'⟩
theorem stp {Z : Nat → Prop} {i : Nat} {st : St} {a a' : Act} {W W' : World} {ts : List Nat} {vs : List AV} {blk : Blk} (E : Env l X Y R pb xs J Jx) (hZ : Z pb) (hJ : J Z i W) (k : LeftP Try.prog X R st a W ts vs blk a' W') :
    ∃ Z', Z' pb ∧ J Z' i W' ∧ GoodW X R W W' := ⟨_, .inl hZ, E.hJ _ _ _ _ hJ (belowZ E hZ k.below), good_below k.below⟩
theorem put_get {a : Act} {d t : Nat} {v : Value} (h : d < a.tmps.size) : (a.put (some d) v).tmps.getD t undef = if t = d then v else a.tmps.getD t undef := by
  show (a.tmps.setIfInBounds d v).getD t undef = _
  by_cases e : t = d
  · subst e; simp [Array.getD_eq_getD_getElem?, h]
  · simp [Array.getD_eq_getD_getElem?, Array.getElem?_setIfInBounds, e, Ne.symm e]
theorem put_size {a : Act} {d : Nat} {v : Value} : (a.put (some d) v).tmps.size = a.tmps.size := by
  show (a.tmps.setIfInBounds d v).size = _
  simp
theorem fin89 {A : Ending → World → Prop} {a : Act} {W : World} {b : Bool} (hd : a.defers = []) (ht : a.tmps.getD 9 undef = .bool b) (hA : A (.returned (.bool b)) W) : bodyPost Try.prog Try.f89 A .ret a W := by
  refine ⟨hd, .bool b, ?_, hA⟩
  simp only [results, res89]
  simpa [Array.getD_eq_getD_getElem?] using ht
theorem pre89 (E : Env l X Y R pb xs J Jx) {j room : Int} {v6 : AV} {p : List AV} {W : World} {Z : Nat → Prop} {i : Nat} {av : Array Value} (hv6 : free Try.prog 1 v6 = true) (h : At l X R pb p W) (hs : av.size = 7)
    (hv : ∀ k, k < 7 → VR Try.prog (XR X R) R W (([.i .i64 j, .i .i64 room, rpR da db cs, rpY l, .p 0 0 0, rpM m0 m1 m2 m3 m4 m5 m6 m7, v6] : List AV).getD k .u) (av.getD k undef)) (hZ : Z pb) (hJ : J Z i W) {Q : Exit → Act → World → Prop}
    (hc : ∀ a' W' Z', Hd da db cs m0 m1 m2 m3 m4 m5 m6 m7 l X R pb j room v6 .u p a' W' → a'.eval (.tmp 15) = .bool (j == (cs.length : Int)) → Z' pb → J Z' i W' → GoodW X R W W' →
      (Code.cond (.tmp 15) (.seq q2 .ret) .skip).wpIn (FW none) 0 Try.prog (Exit.then (fun a w => (Code.seq q3 (.seq (.seq q4 (.block 0 (.loop qB))) (.seq q10 (.seq q11 .ret)))).wpIn (FW none) 0 Try.prog Q a w) Q) a' W') :
    bd89.wpIn (FW none) 0 Try.prog Q { tmps := av ++ Array.replicate (57 - av.size) undef, defers := [] } W := by
  rw [bd89_eq]
  have h0 : SR Try.prog ⟨W, rowsOf R, fun id => id < 1, W.heap.size, Nat.le_refl _⟩ (XR X R) (XR X R) R (st0 j room (rpR da db cs) (rpY l) (rpM m0 m1 m2 m3 m4 m5 m6 m7) v6 p) { tmps := av ++ Array.replicate (57 - av.size) undef, defers := [] } W :=
    init_SR (args := [.i .i64 j, .i .i64 room, rpR da db cs, rpY l, .p 0 0 0, rpM m0 m1 m2 m3 m4 m5 m6 m7, v6]) (rows := [rw0 p]) h.xl E.R1 (fun id b s e => by
      rcases Nat.eq_zero_or_pos id with e0 | e0
      · rw [e0, E.R0] at e; cases e; exact ⟨h.pl, by simp⟩
      · rw [E.R1 id e0] at e; cases e) (fun id id' b s s' e e' => by
      rcases Nat.eq_zero_or_pos id with e0 | e0
      · rcases Nat.eq_zero_or_pos id' with e1 | e1
        · rw [e0, e1]
        · rw [E.R1 id' e1] at e'; cases e'
      · rw [E.R1 id e0] at e; cases e) rfl (fun id hid => by
      have : id = 0 := by simp at hid; omega
      subst this
      exact h.row) hs (show 7 ≤ 57 by decide) hv
  refine wpIn_seq (piece_sound S0_ok mixed E.R0 h0 (fun id hid => E.R1 id hid) (Nat.le_refl 1) (lokP q0 (by kernel_rfl)) (by simp) (pe0 da db cs m0 m1 m2 m3 m4 m5 m6 m7 j room l v6 p) (fr8 _ _ _ _ _ _ _ _ _ _ _ _ _ _ _ _ hv6 rfl) (frB p) fun a1 W1 k1 => ?_)
  obtain ⟨Z1, z1, j1, g1⟩ := stp E hZ hJ k1
  have H1 : Hd da db cs m0 m1 m2 m3 m4 m5 m6 m7 l X R pb j room v6 .u p a1 W1 := Hd.left h rfl rfl rfl rfl k1
  refine wpIn_seq (wpIn_seq (piece_sound S0_ok mixed E.R0 (H1.sr E) (fun id hid => E.R1 id hid) (Nat.le_refl 1) (lokP q1 (by kernel_rfl)) (by simp) (pe1 da db cs m0 m1 m2 m3 m4 m5 m6 m7 j room l v6 p) (freeL_app (fr8 _ _ _ _ _ _ _ _ _ _ _ _ _ _ _ _ hv6 rfl) rfl) (frB p) fun a2 W2 k2 => ?_))
  obtain ⟨Z2, z2, j2, g2⟩ := stp E z1 j1 k2
  have H2 : Hd da db cs m0 m1 m2 m3 m4 m5 m6 m7 l X R pb j room v6 .u p a2 W2 := Hd.left H1.at_ rfl rfl rfl H1.df k2
  exact hc a2 W2 Z2 H2 (k2.tmp 8 (by decide)).bool_inv z2 j2 (g1.trans g2)

theorem plain8 {D : Nat → Nat → Prop} {W : World} {p : List AV} {v : Value} (h : VR Try.prog D R W (ag8 p) v) : plain (ag8 p) = true := by
  obtain ⟨cv, _, _, h⟩ := h.agg_inv
  have k : ∀ i, i < 8 → IntKind.i64.min ≤ fI p i ∧ fI p i ≤ IntKind.i64.max := by
    intro i hi
    have := h i hi
    rcases i with _ | _ | _ | _ | _ | _ | _ | _ | i
    all_goals first | (exfalso; omega) | exact VR.int_inv this |>.2
  have := k 0 (by decide); have := k 1 (by decide); have := k 2 (by decide); have := k 3 (by decide)
  have := k 4 (by decide); have := k 5 (by decide); have := k 6 (by decide); have := k 7 (by decide)
  simp only [ag8, plain, plainL, Bool.and_eq_true, decide_eq_true_eq, and_true]
  exact ⟨k 0 (by decide), k 1 (by decide), k 2 (by decide), k 3 (by decide), k 4 (by decide), k 5 (by decide), k 6 (by decide), k 7 (by decide)⟩
/-- A leaf. -/
theorem leaf89 (E : Env l X Y R pb xs J Jx) {room : Int} {v6 : AV} {p : List AV} {W : World} {Z : Nat → Prop} {i : Nat} {av : Array Value} (hv6 : free Try.prog 1 v6 = true) (h : At l X R pb p W) (hs : av.size = 7)
    (hv : ∀ k, k < 7 → VR Try.prog (XR X R) R W (([.i .i64 (cs.length : Nat), .i .i64 room, rpR da db cs, rpY l, .p 0 0 0, rpM m0 m1 m2 m3 m4 m5 m6 m7, v6] : List AV).getD k .u) (av.getD k undef)) (hZ : Z pb) (hJ : J Z i W)
    (hx : xs[i]? = some (enc8 p)) : Calls Try.prog 89 av W (Done l X R pb J Jx W (i + 1) p) := by
  refine calls_of_FW (ro := none) (n := 0) (callsIn_of_wp Try.func89 body89 trivial ?_)
  refine pre89 E hv6 h hs hv hZ hJ fun a2 W2 Z2 H2 ht z2 j2 g2 => ?_
  refine wpIn_cond (t := true) (ht.trans (by simp)) ?_
  simp only [if_true]
  rw [q2_eq]
  refine wpIn_seq (wpIn_region ?_)
  rw [sz2, show List.range 4 = List.range' 0 2 ++ [2, 3] by decide]
  refine pieceB_sound S0_ok E.R0 (H2.sr E) (fun id hid => E.R1 id hid) (Nat.le_refl 1) (by rw [sz2]; decide) (by simp) (pe2 da db cs m0 m1 m2 m3 m4 m5 m6 m7 _ room l v6 p) (by kernel_rfl) (frB p) fun a3 W3 k3 => ?_
  obtain ⟨Z3, z3, j3, g3⟩ := stp E z2 j2 k3
  have A3 := H2.at_.left k3
  have hy : a3.eval (.tmp 16) = .func (.yield l) #[] #[] := by
    have := k3.tmp 0 (by decide)
    simp only [List.getD_cons_zero] at this
    show a3.tmps.getD 16 undef = _
    generalize a3.tmps.getD 16 undef = q at this
    cases this; rfl
  have sz3 : a3.tmps.size = 57 := k3.nt.trans rfl
  have df3 : a3.defers = [] := k3.df.trans H2.df
  simp only [wpOpsIn, o2a_at, o2b_at]
  rw [if_pos (by simp [Region.wanted, o2a_g])]
  have hx8 : VR Try.prog (XR X R) R W3 (ag8 p) (a3.eval (.tmp 17)) := k3.tmp 1 (by decide)
  refine yield_op o2a_op rfl rfl hy hx8 (plain8 hx8) (fun m => E.yield Z3 i _ W3 m j3 hx) fun e4 W4 he => ?_
  have tl : ∀ (b : Bool) (Q : Exit → Act → World → Prop), (∀ a', a'.defers = [] → a'.tmps.getD 9 undef = .bool b → Q .normal a' W4) → (if Region.wanted o2b (yielded ops2 (a3.put o2a.dst (.bool b)).tmps) = true then o2b.wpIn (FW none) 0 Try.prog (a3.put o2a.dst (.bool b)) W4 (fun a w => Q .normal a w) Q
      else (∀ f, o2b.about Try.prog W4 (a3.put o2a.dst (.bool b)).eval = some f → (FW none).fn f) ∧ Q .normal ((a3.put o2a.dst (.bool b)).put o2b.dst undef) W4) := by
    intro b Q hQ
    rw [if_pos (by simp [Region.wanted, o2b_g])]
    have e18 : (a3.put o2a.dst (.bool b)).eval (.tmp 18) = .bool b := by
      rw [o2a_d]
      exact (put_get (by rw [sz3]; decide)).trans (if_pos rfl)
    refine wpIn_value (w' := W4) (v := .bool b) (fun c hc => by rw [o2b_op] at hc; cases hc) (by simp only [execOp, o2b_op, e18, Sem.run_pure]) (hQ _ ?_ ?_)
    · rw [put_defers, put_defers]; exact df3
    · rw [o2b_d, o2a_d]
      exact (put_get (by rw [put_size, sz3]; decide)).trans (if_pos rfl)
  rcases he with ⟨rfl, j4, kp⟩ | ⟨rfl, jx, kp⟩
  · refine ⟨_, rfl, tl true _ fun a' hd' ht' => ?_⟩
    refine wpIn_ret (fin89 hd' ht' (.inl ⟨rfl, Z3, z3, j4, ⟨fun b o hb => Nat.lt_of_lt_of_le (A3.xl b o hb) kp.size, Nat.lt_of_lt_of_le A3.pl kp.size, row_kp kp E.YX (fun b s o e => ?_) A3.row⟩, (g2.trans g3).trans (good_kp kp E.YX)⟩))
    rw [E.R0] at e; cases e; exact E.pX o
  · refine ⟨_, rfl, tl false _ fun a' hd' ht' => ?_⟩
    exact wpIn_ret (fin89 hd' ht' (.inr ⟨rfl, Z3, jx⟩))
end Go.Proofs.Ytgifjphinkbcaaa

set_option maxRecDepth 100000
set_option linter.unusedVariables false
set_option linter.unusedSimpArgs false
namespace Go.Proofs.Ytgifjphinkbcaaa
open Go Go.Ev Go.RowKit
noncomputable def o8 : Oper := (match q8 with | .region _ o _ => o | _ => #[])[0]?.getD default
theorem q8_eq : q8 = .region 8 #[o8] false := by kernel_rfl
theorem o8_op : o8.op = .assign (.const (.bool false)) := by kernel_rfl
theorem o8_g : o8.guard = none := by kernel_rfl
theorem o8_d : o8.dst = some 9 := by kernel_rfl
section
variable (da db : Int) (cs : List (List AV)) (m0 m1 m2 m3 m4 m5 m6 m7 : Int) (l : Nat) (X : Nat → Nat → Prop) (R : Nat → Option (Nat × Nat × Nat)) (pb : Nat) (xs : List (List AV)) (J : (Nat → Prop) → Nat → World → Prop) (Jx : (Nat → Prop) → World → Prop)
def RecOK (j : Nat) (room : Int) (p : List AV) (lst : List (List AV)) (p' : List AV) : Prop :=
  ∀ (W : World) (Z : Nat → Prop) (i : Nat) (av : Array Value), At l X R pb p W → av.size = 7 →
    (∀ k, k < 7 → VR Try.prog (XR X R) R W (([.i .i64 (j : Nat), .i .i64 room, rpR da db cs, rpY l, .p 0 0 0, rpM m0 m1 m2 m3 m4 m5 m6 m7, RP da db cs m0 m1 m2 m3 m4 m5 m6 m7 l (cs.length - j)] : List AV).getD k .u) (av.getD k undef)) → Z pb → J Z i W →
    (∀ q x, lst[q]? = some x → xs[i + q]? = some x) → Calls Try.prog 89 av W (Done l X R pb J Jx W (i + lst.length) p')
def LoopOK (j : Nat) (room : Int) (p : List AV) (lst : List (List AV)) (p' : List AV) : Prop :=
  ∀ (W : World) (Z : Nat → Prop) (i : Nat) (a : Act), j < cs.length → j < 8 → Hd da db cs m0 m1 m2 m3 m4 m5 m6 m7 l X R pb j room (RP da db cs m0 m1 m2 m3 m4 m5 m6 m7 l (cs.length - j)) (.i .i64 (wid db cs j)) p a W → Z pb → J Z i W →
    (∀ q x, lst[q]? = some x → xs[i + q]? = some x) → ∀ (Q : Exit → Act → World → Prop),
    (∀ a' W' Z' room', Hd da db cs m0 m1 m2 m3 m4 m5 m6 m7 l X R pb j room' (RP da db cs m0 m1 m2 m3 m4 m5 m6 m7 l (cs.length - j)) (.i .i64 (wid db cs j)) p' a' W' → Z' pb → J Z' (i + lst.length) W' → GoodW X R W W' → Q .normal a' W') →
    (∀ a' W' Z', a'.defers = [] → a'.tmps.getD 9 undef = .bool false → Jx Z' W' → Q .ret a' W') →
    ∀ (bf : Frame) (k : List Item) (fs : List Frame), bf.roundOf = (FW none).round → (FW none).fn bf.fn → (FW none).room (fs.length + 1 + 0) → ∃ e a' w', Exit.inBlock 0 Q e a' w' ∧ ArrivesIn (Machine.fenced Try.prog (FW none)) Try.prog (lone (bf.atR a (.code qB :: .inLoop qB :: k)) fs W) bf k fs e a' w'
end
variable {da db : Int} {cs : List (List AV)} {m0 m1 m2 m3 m4 m5 m6 m7 : Int} {l : Nat} {X : Nat → Nat → Prop} {Y : Nat → Prop} {R : Nat → Option (Nat × Nat × Nat)} {pb : Nat} {xs : List (List AV)} {J : (Nat → Prop) → Nat → World → Prop} {Jx : (Nat → Prop) → World → Prop}
theorem idx (j : Nat) : 0 + ((j : Nat) : Int).toNat * 1 = j := by simp
theorem node89 (E : Env l X Y R pb xs J Jx) {j : Nat} {room : Int} {p p' : List AV} {lst : List (List AV)} (hj : j < cs.length) (h8 : j < 8)
    (ih : LoopOK da db cs m0 m1 m2 m3 m4 m5 m6 m7 l X R pb xs J Jx j room (setCs p j [.i .i64 0]) lst p') : RecOK da db cs m0 m1 m2 m3 m4 m5 m6 m7 l X R pb xs J Jx j room p lst (setCs p' j [.i .i64 0]) := by
  intro W Z i av h hs hv hZ hJ hx
  obtain ⟨g1, g2, g3⟩ := gj_at h8
  have gl : inb ((j : Nat) : Int) cs.length = true := by simp [inb, hj]
  have hv6 := RP_free (da := da) (db := db) (cs := cs) (m0 := m0) (m1 := m1) (m2 := m2) (m3 := m3) (m4 := m4) (m5 := m5) (m6 := m6) (m7 := m7) (l := l) (cs.length - j)
  refine calls_of_FW (ro := none) (n := 0) (callsIn_of_wp Try.func89 body89 trivial ?_)
  refine pre89 E hv6 h hs hv hZ hJ fun a2 W2 Z2 H2 ht z2 j2 k2 => ?_
  refine wpIn_cond (t := false) (ht.trans (by congr 1; simp; omega)) ?_
  refine wpIn_skip ?_
  show (Code.seq q3 _).wpIn _ _ _ _ _ _
  have E3 := pe3 da db cs m0 m1 m2 m3 m4 m5 m6 m7 j room l (RP da db cs m0 m1 m2 m3 m4 m5 m6 m7 l (cs.length - j)) p
  rw [gl, cond_true] at E3
  refine wpIn_seq (piece_sound S0_ok mixed E.R0 (H2.sr E) (fun id hid => E.R1 id hid) (Nat.le_refl 1) (lokP q3 (by kernel_rfl)) (by simp) E3 (fr8 _ _ _ _ _ _ _ _ _ _ _ _ _ _ _ _ hv6 rfl) (frB p) fun a3 W3 k3 => ?_)
  obtain ⟨Z3, z3, j3, q3'⟩ := stp E z2 j2 k3
  have H3 : Hd da db cs m0 m1 m2 m3 m4 m5 m6 m7 l X R pb j room (RP da db cs m0 m1 m2 m3 m4 m5 m6 m7 l (cs.length - j)) (.i .i64 (wid db cs j)) p a3 W3 := Hd.left H2.at_ rfl rfl rfl H2.df k3
  have E4 := pe4 da db cs m0 m1 m2 m3 m4 m5 m6 m7 j room (wid db cs j) l (RP da db cs m0 m1 m2 m3 m4 m5 m6 m7 l (cs.length - j)) p
  rw [g1, g2, idx] at E4
  refine wpIn_seq (wpIn_seq (piece_sound S0_ok mixed E.R0 (H3.sr E) (fun id hid => E.R1 id hid) (Nat.le_refl 1) (lokP q4 (by kernel_rfl)) (by simp) E4 (fr8 _ _ _ _ _ _ _ _ _ _ _ _ _ _ _ _ hv6 rfl) (frB _) fun a4 W4 k4 => ?_))
  obtain ⟨Z4, z4, j4, q4'⟩ := stp E z3 j3 k4
  have H4 : Hd da db cs m0 m1 m2 m3 m4 m5 m6 m7 l X R pb j room (RP da db cs m0 m1 m2 m3 m4 m5 m6 m7 l (cs.length - j)) (.i .i64 (wid db cs j)) (setCs p j [.i .i64 0]) a4 W4 := Hd.left H3.at_ rfl rfl rfl H3.df k4
  refine wpIn_block (loop_of ?_)
  refine ih W4 Z4 i a4 hj h8 H4 z4 j4 hx _ (fun a5 W5 Z5 room' H5 z5 j5 q5' => ?_) (fun a5 W5 Z5 d5 t5 jx => ?_)
  · show (Code.seq q10 (.seq q11 .ret)).wpIn _ _ _ _ _ _
    have EA := peA da db cs m0 m1 m2 m3 m4 m5 m6 m7 j room' (wid db cs j) l (RP da db cs m0 m1 m2 m3 m4 m5 m6 m7 l (cs.length - j)) p'
    rw [g1, g2, idx] at EA
    refine wpIn_seq (piece_sound S0_ok mixed E.R0 (H5.sr E) (fun id hid => E.R1 id hid) (Nat.le_refl 1) (lokP q10 (by kernel_rfl)) (by simp) EA (fr8 _ _ _ _ _ _ _ _ _ _ _ _ _ _ _ _ hv6 rfl) (frB _) fun a6 W6 k6 => ?_)
    obtain ⟨Z6, z6, j6, q6'⟩ := stp E z5 j5 k6
    have H6 : Hd da db cs m0 m1 m2 m3 m4 m5 m6 m7 l X R pb j room' (RP da db cs m0 m1 m2 m3 m4 m5 m6 m7 l (cs.length - j)) (.i .i64 (wid db cs j)) (setCs p' j [.i .i64 0]) a6 W6 := Hd.left H5.at_ rfl rfl rfl H5.df k6
    refine wpIn_seq (piece_sound S0_ok mixed E.R0 (H6.sr E) (fun id hid => E.R1 id hid) (Nat.le_refl 1) (lokP q11 (by kernel_rfl)) (by simp) (peB da db cs m0 m1 m2 m3 m4 m5 m6 m7 j room' (wid db cs j) l _ _) rfl (frB _) fun a7 W7 k7 => ?_)
    obtain ⟨Z7, z7, j7, q7'⟩ := stp E z6 j6 k7
    exact wpIn_ret (fin89 (k7.df.trans H6.df) (k7.tmp 0 (by decide)).bool_inv (.inl ⟨rfl, Z7, z7, j7, H6.at_.left k7, k2.trans (q3'.trans (q4'.trans (q5'.trans (q6'.trans q7'))))⟩))
  · exact fin89 d5 t5 (.inr ⟨rfl, Z5, jx⟩)
theorem stop89 (E : Env l X Y R pb xs J Jx) {j : Nat} {room : Int} {p : List AV} (hst : (decide (fI p j ≤ fI [AV.i IntKind.i64 m0, AV.i IntKind.i64 m1, AV.i IntKind.i64 m2, AV.i IntKind.i64 m3, AV.i IntKind.i64 m4, AV.i IntKind.i64 m5, AV.i IntKind.i64 m6, AV.i IntKind.i64 m7] j) && decide (room ≥ 0)) = false) :
    LoopOK da db cs m0 m1 m2 m3 m4 m5 m6 m7 l X R pb xs J Jx j room p [] p := by
  intro W Z i a hj h8 H hZ hJ hx Q h1 h2
  obtain ⟨g1, g2, g3⟩ := gj_at h8
  have hv6 := RP_free (da := da) (db := db) (cs := cs) (m0 := m0) (m1 := m1) (m2 := m2) (m3 := m3) (m4 := m4) (m5 := m5) (m6 := m6) (m7 := m7) (l := l) (cs.length - j)
  have E5 := pe5 da db cs m0 m1 m2 m3 m4 m5 m6 m7 j room (wid db cs j) l (RP da db cs m0 m1 m2 m3 m4 m5 m6 m7 l (cs.length - j)) p
  rw [g1, g2, g3, idx] at E5
  have E5' : piece q5 [0, 1, 2, 3, 4, 5, 6, 10, 40] (stH (vH da db cs m0 m1 m2 m3 m4 m5 m6 m7 l j room (RP da db cs m0 m1 m2 m3 m4 m5 m6 m7 l (cs.length - j)) (.i .i64 (wid db cs j))) p) = some (.nrm, vH da db cs m0 m1 m2 m3 m4 m5 m6 m7 l j room (RP da db cs m0 m1 m2 m3 m4 m5 m6 m7 l (cs.length - j)) (.i .i64 (wid db cs j)) ++ [.b false], rw0 p) := by
    rw [E5]
    cases hd : decide (fI p j ≤ fI [AV.i IntKind.i64 m0, AV.i IntKind.i64 m1, AV.i IntKind.i64 m2, AV.i IntKind.i64 m3, AV.i IntKind.i64 m4, AV.i IntKind.i64 m5, AV.i IntKind.i64 m6, AV.i IntKind.i64 m7] j) with
    | false => rfl
    | true =>
      rw [hd, Bool.true_and] at hst
      simp only [cond_true, hst]
      rfl
  refine of_loop ?_
  have hq := qB_eq
  generalize hB : qB = B at hq ⊢
  rw [hq]
  refine wpIn_seq (wpIn_seq (piece_sound S0_ok mixed E.R0 (H.sr E) (fun id hid => E.R1 id hid) (Nat.le_refl 1) (lokP q5 (by kernel_rfl)) (by simp) E5' (freeL_app (fr8 _ _ _ _ _ _ _ _ _ _ _ _ _ _ _ _ hv6 rfl) rfl) (frB _) fun a1 W1 k1 => ?_))
  obtain ⟨Z1, z1, j1, q1'⟩ := stp E hZ hJ k1
  have H1 : Hd da db cs m0 m1 m2 m3 m4 m5 m6 m7 l X R pb j room (RP da db cs m0 m1 m2 m3 m4 m5 m6 m7 l (cs.length - j)) (.i .i64 (wid db cs j)) p a1 W1 := Hd.left H.at_ rfl rfl rfl H.df k1
  refine wpIn_cond (t := false) (k1.tmp 8 (by decide)).bool_inv ?_
  refine wpIn_exit ?_
  show Exit.inBlock 0 Q (.exit 0) a1 W1
  simp only [Exit.inBlock, if_true]
  exact h1 a1 W1 Z1 room H1 z1 j1 q1'
end Go.Proofs.Ytgifjphinkbcaaa

set_option maxRecDepth 100000
set_option linter.unusedVariables false
set_option linter.unusedSimpArgs false
namespace Go.Proofs.Ytgifjphinkbcaaa
open Go Go.Ev Go.RowKit
variable {da db : Int} {cs : List (List AV)} {m0 m1 m2 m3 m4 m5 m6 m7 : Int} {l : Nat} {X : Nat → Nat → Prop} {Y : Nat → Prop} {R : Nat → Option (Nat × Nat × Nat)} {pb : Nat} {xs : List (List AV)} {J : (Nat → Prop) → Nat → World → Prop} {Jx : (Nat → Prop) → World → Prop}
theorem wrap_id {x : Int} (h0 : -9223372036854775808 ≤ x) (h1 : x ≤ 9223372036854775807) : IntKind.i64.wrap x = x := by
  simp only [IntKind.wrap, IntKind.signed, IntKind.bits]
  simp
  omega
theorem app2_0 {x y : Value} {cv : Array Value} : (#[x, y] ++ cv).getD 0 undef = x := by simp [Array.getD_eq_getD_getElem?, Array.getElem?_append]
theorem app2_1 {x y : Value} {cv : Array Value} : (#[x, y] ++ cv).getD 1 undef = y := by simp [Array.getD_eq_getD_getElem?, Array.getElem?_append]
theorem app2_2 {x y : Value} {cv : Array Value} {k : Nat} : (#[x, y] ++ cv).getD (k + 2) undef = cv.getD k undef := by
  have : ¬ (k + 2 < 2) := by omega
  simp [Array.getD_eq_getD_getElem?, Array.getElem?_append, this]
theorem tab89 : ∃ fn, Try.prog.funcs[89]? = some fn ∧ (fn.name == "runtime.NumGoroutine") = false ∧ fn.body.isSome = true := ⟨Try.f89, Try.func89, names 89 _ Try.func89, by rw [body89]; rfl⟩
theorem step89 (E : Env l X Y R pb xs J Jx) {j : Nat} {room : Int} {p p1 p2 : List AV} {l1 l2 : List (List AV)} (hle : fI p j ≤ fI [AV.i IntKind.i64 m0, AV.i IntKind.i64 m1, AV.i IntKind.i64 m2, AV.i IntKind.i64 m3, AV.i IntKind.i64 m4, AV.i IntKind.i64 m5, AV.i IntKind.i64 m6, AV.i IntKind.i64 m7] j) (hr : 0 ≤ room)
    (ih1 : RecOK da db cs m0 m1 m2 m3 m4 m5 m6 m7 l X R pb xs J Jx (j + 1) room p l1 p1)
    (ih2 : LoopOK da db cs m0 m1 m2 m3 m4 m5 m6 m7 l X R pb xs J Jx j (IntKind.i64.wrap (room - wid db cs j)) (setCs p1 j [.i .i64 (IntKind.i64.wrap (fI p1 j + 1))]) l2 p2) :
    LoopOK da db cs m0 m1 m2 m3 m4 m5 m6 m7 l X R pb xs J Jx j room p (l1 ++ l2) p2 := by
  intro W Z i a hj h8 H hZ hJ hx Q h1 h2
  obtain ⟨g1, g2, g3⟩ := gj_at h8
  obtain ⟨d, hd⟩ : ∃ d, cs.length - j = d + 1 := ⟨cs.length - (j + 1), by omega⟩
  have hd' : cs.length - (j + 1) = d := by omega
  have hv6 : ∀ d, free Try.prog 1 (RP da db cs m0 m1 m2 m3 m4 m5 m6 m7 l d) = true := RP_free
  rw [hd] at H h1
  have hRP : RP da db cs m0 m1 m2 m3 m4 m5 m6 m7 l (d + 1) = .rp [.oth] [fn89 da db cs m0 m1 m2 m3 m4 m5 m6 m7 l (RP da db cs m0 m1 m2 m3 m4 m5 m6 m7 l d)] 0 := rfl
  have E5 := pe5 da db cs m0 m1 m2 m3 m4 m5 m6 m7 j room (wid db cs j) l (RP da db cs m0 m1 m2 m3 m4 m5 m6 m7 l (d + 1)) p
  rw [g1, g2, g3, idx, decide_eq_true hle, show decide (room ≥ 0) = true from decide_eq_true hr] at E5
  refine of_loop ?_
  have hq := qB_eq
  generalize hB : Code.loop qB = B0
  generalize hB : qB = B at hq ⊢
  rw [hq]
  refine wpIn_seq (wpIn_seq (piece_sound S0_ok mixed E.R0 (H.sr E) (fun id hid => E.R1 id hid) (Nat.le_refl 1) (lokP q5 (by kernel_rfl)) (by simp) E5 (freeL_app (fr8 _ _ _ _ _ _ _ _ _ _ _ _ _ _ _ _ (hv6 _) rfl) rfl) (frB _) fun a1 W1 k1 => ?_))
  obtain ⟨Z1, z1, j1, q1'⟩ := stp E hZ hJ k1
  have H1 : Hd da db cs m0 m1 m2 m3 m4 m5 m6 m7 l X R pb j room (RP da db cs m0 m1 m2 m3 m4 m5 m6 m7 l (d + 1)) (.i .i64 (wid db cs j)) p a1 W1 := Hd.left H.at_ rfl rfl rfl H.df k1
  refine wpIn_cond (t := true) (k1.tmp 8 (by decide)).bool_inv ?_
  refine wpIn_skip ?_
  show (Code.seq (.block 1 (.seq (.seq q7 (.cond (.tmp 51) (.seq q8 .ret) .skip)) q9)) q6).wpIn _ _ _ _ _ _
  refine wpIn_seq (wpIn_block (wpIn_seq (wpIn_seq ?_)))
  rw [q7_eq]
  refine wpIn_region ?_
  rw [sz7, show List.range 6 = List.range' 0 4 ++ [4, 5] by decide]
  have H1' := H1
  rw [hRP] at H1'
  refine pieceB_sound S0_ok E.R0 (H1'.sr E) (fun id hid => E.R1 id hid) (Nat.le_refl 1) (by rw [sz7]; decide) (by simp) (pe7 da db cs m0 m1 m2 m3 m4 m5 m6 m7 j room (wid db cs j) l (RP da db cs m0 m1 m2 m3 m4 m5 m6 m7 l d) p) (freeL_app (fr8 _ _ _ _ _ _ _ _ _ _ _ _ _ _ _ _ (hv6 (d + 1)) rfl) ?_) (frB p) fun a2 W2 k2 => ?_
  · have : freeL Try.prog 1 [fn89 da db cs m0 m1 m2 m3 m4 m5 m6 m7 l (RP da db cs m0 m1 m2 m3 m4 m5 m6 m7 l d), .i .i64 (IntKind.i64.wrap ((j : Int) + 1)), .i .i64 room] = ((free Try.prog 1 (RP da db cs m0 m1 m2 m3 m4 m5 m6 m7 l d) && true) && true) := by kernel_rfl
    rw [this, hv6 d]; rfl
  obtain ⟨Z2, z2, j2, q2'⟩ := stp E z1 j1 k2
  have H2 : Hd da db cs m0 m1 m2 m3 m4 m5 m6 m7 l X R pb j room (RP da db cs m0 m1 m2 m3 m4 m5 m6 m7 l (d + 1)) (.i .i64 (wid db cs j)) p a2 W2 := Hd.left H1.at_ rfl rfl rfl H1.df k2
  have t46 := k2.tmp 8 (by decide)
  have t48 := k2.tmp 9 (by decide)
  have t49 := k2.tmp 10 (by decide)
  change VR Try.prog (XR X R) R W2 (fn89 da db cs m0 m1 m2 m3 m4 m5 m6 m7 l (RP da db cs m0 m1 m2 m3 m4 m5 m6 m7 l d)) (a2.tmps.getD 46 undef) at t46
  change VR Try.prog (XR X R) R W2 (.i .i64 (IntKind.i64.wrap ((j : Int) + 1))) (a2.tmps.getD 48 undef) at t48
  change VR Try.prog (XR X R) R W2 (.i .i64 room) (a2.tmps.getD 49 undef) at t49
  rw [show IntKind.i64.wrap ((j : Int) + 1) = ((j + 1 : Nat) : Int) from (wrap_id (by omega) (by omega)).trans (by omega)] at t48
  have hf : ∃ cv, a2.eval (.tmp 46) = .func (.func 89) #[] cv ∧ cv.size = 5 ∧ ∀ k, k < 5 → VR Try.prog (XR X R) R W2 (([rpR da db cs, rpY l, .p 0 0 0, rpM m0 m1 m2 m3 m4 m5 m6 m7, RP da db cs m0 m1 m2 m3 m4 m5 m6 m7 l d] : List AV).getD k .u) (cv.getD k undef) := by
    show ∃ cv, a2.tmps.getD 46 undef = _ ∧ _
    generalize a2.tmps.getD 46 undef = q at t46
    unfold fn89 at t46
    cases t46 with
    | fn c1 c2 => exact ⟨_, rfl, c1, c2⟩
  obtain ⟨cv, hy, c1, c2⟩ := hf
  have sz2' : a2.tmps.size = 57 := k2.nt.trans rfl
  simp only [wpOpsIn, o7a_at, o7b_at]
  rw [if_pos (by simp [Region.wanted, o7a_g])]
  obtain ⟨fn, f1, f2, f3⟩ := tab89
  refine enter_op o7a_op rfl hy f1 f2 f3 (ih1 W2 Z2 i _ H2.at_ (by simp [c1]) (fun k hk => ?_) z2 j2 (fun q x hq => hx q x (by
    have hlt := (List.getElem?_eq_some_iff.1 hq).1
    rw [List.getElem?_append_left hlt]; exact hq))) fun e3 W3 he => ?_
  · rw [hd']
    have em : Array.map a2.eval #[Operand.tmp 48, Operand.tmp 49] = #[a2.tmps.getD 48 undef, a2.tmps.getD 49 undef] := by simp [Act.eval]
    dsimp only
    rw [em]
    rcases k with _ | _ | k
    · rw [app2_0]; exact t48
    · rw [show 0 + 1 = 1 from rfl, app2_1]; exact t49
    · rw [show k + 1 + 1 = k + 2 from rfl, app2_2]; exact c2 k (by omega)
  -- the result, and its opposite
  have e50 : ∀ b : Bool, (a2.put o7a.dst (.bool b)).eval (.tmp 50) = .bool b := fun b => by
    rw [o7a_d]
    exact (put_get (by rw [sz2']; decide)).trans (if_pos rfl)
  have e51 : ∀ b : Bool, ((a2.put o7a.dst (.bool b)).put o7b.dst (.bool (!b))).eval (.tmp 51) = .bool (!b) := fun b => by
    rw [o7a_d, o7b_d]
    exact (put_get (by rw [put_size, sz2']; decide)).trans (if_pos rfl)
  have tl : ∀ (b : Bool) (nx : Act → World → Prop) (Q : Exit → Act → World → Prop), nx ((a2.put o7a.dst (.bool b)).put o7b.dst (.bool (!b))) W3 → (if Region.wanted o7b (yielded ops7 (a2.put o7a.dst (.bool b)).tmps) = true then o7b.wpIn (FW none) 0 Try.prog (a2.put o7a.dst (.bool b)) W3 nx Q
      else (∀ f, o7b.about Try.prog W3 (a2.put o7a.dst (.bool b)).eval = some f → (FW none).fn f) ∧ nx ((a2.put o7a.dst (.bool b)).put o7b.dst undef) W3) := by
    intro b nx Q hQ
    rw [if_pos (by simp [Region.wanted, o7b_g])]
    refine wpIn_value (w' := W3) (v := .bool (!b)) (fun c hc => by rw [o7b_op] at hc; cases hc) ?_ hQ
    simp only [execOp, o7b_op, e50 b]
    simp [Op.unary]
  have dfs : ∀ b : Bool, ((a2.put o7a.dst (.bool b)).put o7b.dst (.bool (!b))).defers = [] := fun b => by rw [put_defers, put_defers]; exact H2.df
  rcases he with ⟨rfl, Z3, z3, j3, A3, q3'⟩ | ⟨rfl, Z3, jx⟩
  · refine ⟨_, rfl, tl true _ _ ?_⟩
    show (Code.cond (.tmp 51) (.seq q8 .ret) .skip).wpIn (FW none) 0 Try.prog _ _ W3
    refine wpIn_cond (t := false) (e51 true) ?_
    refine wpIn_skip ?_
    show q9.wpIn (FW none) 0 Try.prog _ _ W3
    have H3 : Hd da db cs m0 m1 m2 m3 m4 m5 m6 m7 l X R pb j room (RP da db cs m0 m1 m2 m3 m4 m5 m6 m7 l (d + 1)) (.i .i64 (wid db cs j)) p1 ((a2.put o7a.dst (.bool true)).put o7b.dst (.bool (!true))) W3 := by
      refine ⟨A3, fun k hk => ?_, ?_, dfs true⟩
      · rw [o7a_d, o7b_d, put_get (by rw [put_size, sz2']; decide), put_get (by rw [sz2']; decide)]
        rw [if_neg (by rcases k with _ | _ | _ | _ | _ | _ | _ | _ | k <;> first | (exfalso; omega) | decide), if_neg (by rcases k with _ | _ | _ | _ | _ | _ | _ | _ | k <;> first | (exfalso; omega) | decide)]
        exact q3'.VR (H2.tmp k hk)
      · rw [o7a_d, o7b_d, put_size, put_size]; exact sz2'
    refine piece_sound S0_ok mixed E.R0 (H3.sr E) (fun id hid => E.R1 id hid) (Nat.le_refl 1) (lokP q9 (by kernel_rfl)) (by simp) (pe9 da db cs m0 m1 m2 m3 m4 m5 m6 m7 j room (wid db cs j) l _ p1) (fr8 _ _ _ _ _ _ _ _ _ _ _ _ _ _ _ _ (hv6 _) rfl) (frB _) fun a4 W4 k4 => ?_
    obtain ⟨Z4, z4, j4, q4'⟩ := stp E z3 j3 k4
    have H4 : Hd da db cs m0 m1 m2 m3 m4 m5 m6 m7 l X R pb j (IntKind.i64.wrap (room - wid db cs j)) (RP da db cs m0 m1 m2 m3 m4 m5 m6 m7 l (d + 1)) (.i .i64 (wid db cs j)) p1 a4 W4 := Hd.left H3.at_ rfl rfl rfl H3.df k4
    show q6.wpIn (FW none) 0 Try.prog _ a4 W4
    have E6 := pe6 da db cs m0 m1 m2 m3 m4 m5 m6 m7 j (IntKind.i64.wrap (room - wid db cs j)) (wid db cs j) l (RP da db cs m0 m1 m2 m3 m4 m5 m6 m7 l (d + 1)) p1
    rw [g1, g2, idx] at E6
    refine piece_sound S0_ok mixed E.R0 (H4.sr E) (fun id hid => E.R1 id hid) (Nat.le_refl 1) (lokP q6 (by kernel_rfl)) (by simp) E6 (fr8 _ _ _ _ _ _ _ _ _ _ _ _ _ _ _ _ (hv6 _) rfl) (frB _) fun a5 W5 k5 => ?_
    obtain ⟨Z5, z5, j5, q5'⟩ := stp E z4 j4 k5
    have H5 : Hd da db cs m0 m1 m2 m3 m4 m5 m6 m7 l X R pb j (IntKind.i64.wrap (room - wid db cs j)) (RP da db cs m0 m1 m2 m3 m4 m5 m6 m7 l (d + 1)) (.i .i64 (wid db cs j)) (setCs p1 j [.i .i64 (IntKind.i64.wrap (fI p1 j + 1))]) a5 W5 := Hd.left H4.at_ rfl rfl rfl H4.df k5
    subst hB
    have hgood := q1'.trans (q2'.trans (q3'.trans (q4'.trans q5')))
    refine ih2 W5 Z5 (i + l1.length) a5 hj h8 (by rw [hd]; exact H5) z5 j5 (fun q x hq => ?_) Q (fun a6 W6 Z6 room' H6 z6 j6 q6' => ?_) h2
    · have := hx (l1.length + q) x (by rw [List.getElem?_append_right (by omega), Nat.add_sub_cancel_left]; exact hq)
      rw [Nat.add_assoc]; exact this
    · rw [hd] at H6
      refine h1 a6 W6 Z6 room' H6 z6 ?_ (hgood.trans q6')
      rw [List.length_append, ← Nat.add_assoc]; exact j6
  · refine ⟨_, rfl, tl false _ _ ?_⟩
    show (Code.cond (.tmp 51) (.seq q8 .ret) .skip).wpIn (FW none) 0 Try.prog _ _ W3
    refine wpIn_cond (t := true) (e51 false) ?_
    simp only [if_true]
    rw [q8_eq]
    refine wpIn_seq (wpIn_region ?_)
    show wpOpsIn (FW none) 0 Try.prog #[o8] _ [0] _ W3
    simp only [wpOpsIn, List.getElem?_toArray, List.getElem?_cons_zero]
    rw [if_pos (by simp [Region.wanted, o8_g])]
    refine wpIn_value (w' := W3) (v := .bool false) (fun c hc => by rw [o8_op] at hc; cases hc) (by simp only [execOp, o8_op, Sem.run_pure]; rfl) ?_
    refine wpIn_ret ?_
    show Q .ret _ W3
    refine h2 _ W3 Z3 ?_ ?_ jx
    · rw [put_defers]; exact dfs false
    · rw [o8_d]
      exact (put_get (by rw [o7b_d, o7a_d, put_size, put_size, sz2']; decide)).trans (if_pos rfl)
def Goal89 (da db : Int) (cs : List (List AV)) (m0 m1 m2 m3 m4 m5 m6 m7 : Int) (l : Nat) (X : Nat → Nat → Prop) (R : Nat → Option (Nat × Nat × Nat)) (pb : Nat) (xs : List (List AV)) (J : (Nat → Prop) → Nat → World → Prop) (Jx : (Nat → Prop) → World → Prop) : Bool → Nat → Int → List AV → List (List AV) → List AV → Prop
  | false => RecOK da db cs m0 m1 m2 m3 m4 m5 m6 m7 l X R pb xs J Jx
  | true => LoopOK da db cs m0 m1 m2 m3 m4 m5 m6 m7 l X R pb xs J Jx
theorem rec89 (E : Env l X Y R pb xs J Jx) {b : Bool} {j : Nat} {room : Int} {p p' : List AV} {lst : List (List AV)} (h : PT db cs [AV.i IntKind.i64 m0, AV.i IntKind.i64 m1, AV.i IntKind.i64 m2, AV.i IntKind.i64 m3, AV.i IntKind.i64 m4, AV.i IntKind.i64 m5, AV.i IntKind.i64 m6, AV.i IntKind.i64 m7] b j room p lst p') :
    Goal89 da db cs m0 m1 m2 m3 m4 m5 m6 m7 l X R pb xs J Jx b j room p lst p' := by
  induction h with
  | leaf => 
    intro W Z i av h hs hv hZ hJ hx
    exact leaf89 E (RP_free _) h hs hv hZ hJ (by simpa using hx 0 _ rfl)
  | node hj h8 _ ih => exact node89 E hj h8 ih
  | stop h => exact stop89 E h
  | step h1 h2 _ _ ih1 ih2 => exact step89 E h1 h2 ih1 ih2
end Go.Proofs.Ytgifjphinkbcaaa
