/-
  The law RidgeFewer of the roofer's ridges answers true whatever rods, cut and length it is handed; no conditions.
-/
import Derived.Test.YtgifjphinkbcaaaPe
import Derived.Test.YtgifjphinkbcaaaPd
import Derived.Test.YtgifjphinkbcaaaPf
set_option linter.unusedVariables false
set_option maxRecDepth 100000
set_option linter.unusedVariables false
namespace Go.Proofs.Ytgifjphinkbcaaa
open Go Go.Ev
/-! ### More cuts, shorter rods -/
section
variable {da db : Int} {cs cs' : List (List AV)}
theorem DD_cs {db : Int} {f : Nat → Int} : ∀ {n : Nat}, (∀ i, i < n → ln cs i = ln cs' i) → DD db cs f n = DD db cs' f n
  | 0, _ => rfl
  | n + 1, h => by
    show DD db cs f n + f n * (ln cs n + db) = DD db cs' f n + f n * (ln cs' n + db)
    rw [DD_cs (n := n) fun i hi => h i (by omega), h n (by omega)]
theorem Cov.cuts {da' : Int} (hd : da ≤ da') (hl : cs.length = cs'.length) (hn : ∀ i, i < cs.length → ln cs i = ln cs' i) {k : Nat} {q : Nat → Int} (h : Cov da db cs k q) : Cov da' db cs' k q := by
  induction h with
  | nil h => exact .nil fun i hi => h i (by omega)
  | @cons k q p h1 h2 h3 ih =>
    refine .cons p (fun i hi => h1 i (by omega)) ?_ ih
    rw [← hl, ← DD_cs hn]
    omega
theorem mq_shorter {da' : Int} (hF : RFine da db cs) (hF' : RFine da' db cs) (h : da' ≤ da) {q : Nat → Int} (hq : ∀ i, i < cs.length → 0 ≤ q i) : mq da db cs q ≤ mq da' db cs q :=
  (mq_ok hF hq).2.1 _ ((mq_ok hF' hq).1.cuts h rfl fun _ _ => rfl)
theorem mq_more (hF : RFine da db cs) (hF' : RFine da db cs') (hl : cs.length = cs'.length) (hn : ∀ i, i < cs.length → ln cs i = ln cs' i) {c : Nat} (hc : c < cs.length) (hm : ∀ i, i < cs.length → mn cs' i = mn cs i + e1 c i) :
    mq da db cs (mn cs) ≤ mq da db cs' (mn cs') ∧ mq da db cs' (mn cs') ≤ mq da db cs (mn cs) + 1 := by
  have h0 : ∀ i, i < cs.length → 0 ≤ mn cs i := fun i hi => by
    have := hF.c i hi
    unfold okCut at this
    omega
  have h0' : ∀ i, i < cs'.length → 0 ≤ mn cs' i := fun i hi => by
    have := hF'.c i hi
    unfold okCut at this
    omega
  have he : ∀ i, 0 ≤ e1 c i := fun i => by
    unfold e1
    split <;> omega
  constructor
  · refine (mq_ok hF h0).2.1 _ (((mq_ok hF' h0').1.cuts (cs' := cs) (Int.le_refl _) hl.symm fun i hi => (hn i (by omega)).symm).sub hF fun i hi => ?_)
    have := h0 i hi
    have := hm i hi
    have := he i
    omega
  · refine (mq_ok hF' h0').2.1 _ (.cons (e1 c) (fun i hi => ?_) (one_fits hF' (by omega)) ?_)
    · have := h0 i (by omega)
      have := hm i (by omega)
      have := he i
      omega
    · refine ((mq_ok hF h0).1.cuts (cs' := cs') (Int.le_refl _) hl hn).congr fun i hi => ?_
      have := hm i (by omega)
      omega
end
end Go.Proofs.Ytgifjphinkbcaaa

set_option maxRecDepth 100000
set_option linter.unusedVariables false
namespace Go.Proofs.Ytgifjphinkbcaaa
open Go Go.Ev
/-- Rods that are handed in. -/
theorem rods_of {a : AV} (h : TyArg Try.prog 35 a) : ∃ da db cs, a = .agg [.i .i64 da, .i .i64 db, .rs 64 cs] := by
  obtain ⟨bs, rfl, hw⟩ := ty_agg (c := [.int .i64, .int .i64, .sl 64]) (by kernel_rfl) (by kernel_rfl) h
  obtain ⟨b0, q0, rfl, w0, hw⟩ := WTs_cons hw
  obtain ⟨b1, q1, rfl, w1, hw⟩ := WTs_cons hw
  obtain ⟨b3, q3, rfl, w3, hw⟩ := WTs_cons hw
  obtain rfl := WTs_nil hw
  obtain ⟨ra, rfl, r1⟩ := WT_int w0
  obtain ⟨rb, rfl, r2⟩ := WT_int w1
  obtain ⟨ps, rfl, _⟩ := WT_sl w3
  exact ⟨ra, rb, ps, rfl⟩
end Go.Proofs.Ytgifjphinkbcaaa

set_option maxRecDepth 100000
set_option linter.unusedVariables false
namespace Go.Proofs.Ytgifjphinkbcaaa
open Go Go.Ev
/-! ### Plan of rods whose cuts lie in a row of the caller's -/
theorem con45r (da db : Int) (cs : List (List AV)) (h : g45 da db cs = true) :
    Con Try.prog 45 [.agg [.i .i64 da, .i .i64 db, .sl 0 0 cs.length]] [.row 64 cs] (.tup [.ln (w45_0 da db cs).length, .i .i64 (w45_1 da db cs)]) [.row 64 cs] := by
  have hc := con45 da db cs h
  refine ⟨hc.fn, fun X R w av hX hR hRb hinj hrow hsz hav => ?_⟩
  have hrow0 : RowOK Try.prog (XR X R) R w 0 (.row 64 cs) := hrow 0 (Nat.one_pos)
  have hno : noOth Try.prog 8 64 = true := by kernel_rfl
  -- the value, as one that nobody writes
  have hval : VR Try.prog (XR X none2) none2 w (.agg [.i .i64 da, .i .i64 db, .rs 64 cs]) (av.getD 0 undef) := by
    obtain ⟨cv, e1, e2, e3⟩ := (hav 0 (by show 0 < 1; omega)).agg_inv
    have hv : VR Try.prog (XR X R) R w (.agg [.i .i64 da, .i .i64 db, .sl 0 0 cs.length]) (av.getD 0 undef) := hav 0 (by show 0 < 1; omega)
    have e1 : av.getD 0 undef = .agg cv := e1
    rw [e1]
    refine .agg e2 fun k hk => ?_
    have hk3 : k < 3 := hk
    have h3 := e3 k hk3
    rcases k with _ | _ | _ | k
    · have h3 : VR Try.prog (XR X R) R w (.i .i64 da) (cv.getD 0 undef) := h3
      obtain ⟨q1, q2, q3⟩ := h3.int_inv
      show VR Try.prog (XR X none2) none2 w (.i .i64 da) (cv.getD 0 undef)
      rw [q1]; exact .i q2 q3
    · have h3 : VR Try.prog (XR X R) R w (.i .i64 db) (cv.getD 1 undef) := h3
      obtain ⟨q1, q2, q3⟩ := h3.int_inv
      show VR Try.prog (XR X none2) none2 w (.i .i64 db) (cv.getD 1 undef)
      rw [q1]; exact .i q2 q3
    · have h3 : VR Try.prog (XR X R) R w (.sl 0 0 cs.length) (cv.getD 2 undef) := h3
      show VR Try.prog (XR X none2) none2 w (.rs 64 cs) (cv.getD 2 undef)
      by_cases hne : cs = []
      · subst hne
        generalize cv.getD 2 undef = u at h3
        have h3 : VR Try.prog (XR X R) R w (.sl 0 0 0) u := h3
        cases h3 with
        | sl q1 q2 q3 => exact .rs0 fun h => by cases h
        | sl0 q => exact .rs0 q
      · obtain ⟨b, cells, ty, r1, r2, r3, r4, r5, r6, r7⟩ := hrow0 hne
        have hpos : 0 < cs.length := List.length_pos_iff.2 hne
        generalize cv.getD 2 undef = u at h3
        generalize hn : cs.length = n at h3
        cases h3 with
        | @sl _ _ _ b' sz c q1 q2 q3 =>
          rw [r1] at q1
          simp only [Option.some.injEq, Prod.mk.injEq, and_true] at q1
          obtain ⟨rfl, rfl⟩ := q1
          rw [Nat.zero_mul, ← hn]
          have hcell : ∀ i j, i < cs.length → j < Try.prog.cellsOf 64 → ∃ v, w.cell? ⟨b, 0 + (i * Try.prog.cellsOf 64 + j), none⟩ = some v ∧ VR Try.prog (XR X R) R w ((cs.getD i []).getD j .u) v := fun i j hi hj => by
            obtain ⟨v, v1, v2⟩ := r7 i j hi hj
            refine ⟨v, ?_, v2⟩
            simp [World.cell?, r2, v1]
          have hfun : ∃ f : Nat → Nat → Value, ∀ i j, i < cs.length → j < Try.prog.cellsOf 64 → w.cell? ⟨b, 0 + (i * Try.prog.cellsOf 64 + j), none⟩ = some (f i j) ∧ VR Try.prog (XR X R) R w ((cs.getD i []).getD j .u) (f i j) := by
            refine ⟨fun i j => (w.cell? ⟨b, 0 + (i * Try.prog.cellsOf 64 + j), none⟩).getD undef, fun i j hi hj => ?_⟩
            obtain ⟨v, v1, v2⟩ := hcell i j hi hj
            have e : (w.cell? ⟨b, 0 + (i * Try.prog.cellsOf 64 + j), none⟩).getD undef = v := by rw [v1]; rfl
            show w.cell? _ = some ((w.cell? ⟨b, 0 + (i * Try.prog.cellsOf 64 + j), none⟩).getD undef) ∧ VR Try.prog (XR X R) R w _ ((w.cell? ⟨b, 0 + (i * Try.prog.cellsOf 64 + j), none⟩).getD undef)
            rw [e]
            exact ⟨v1, v2⟩
          obtain ⟨f, hf⟩ := hfun
          refine .rs (f := f) hne r4 (by omega) r3 (fun i j hi hj hd => ?_) r6 (fun i j hi hj => (hf i j hi hj).1) (fun i j hi hj => ?_)
          · rcases hd with hd | ⟨id, s, hd⟩
            · exact (hRb 0 b _ r1).2.2 _ hd
            · cases hd
          · have := flat_es (R' := none2) hno r3 r6 (fun i j hi hj => (hf i j hi hj).2) i j hi hj
            have hwt := (WT_rs r6).2.2 (cs.getD i []) (by
              rw [List.getD_eq_getElem?_getD, List.getElem?_eq_getElem hi]
              exact List.getElem_mem hi) j (by
              rw [(WT_rs r6).2.1 _ (by
                rw [List.getD_eq_getElem?_getD, List.getElem?_eq_getElem hi]
                exact List.getElem_mem hi), r3]; exact hj)
            have hcts : (cts Try.prog 64).getD j .oth = .int .i64 := by
              have e : cts Try.prog 64 = [.int .i64, .int .i64] := by kernel_rfl
              have ec : Try.prog.cellsOf 64 = 2 := by kernel_rfl
              rw [ec] at hj
              rw [e]
              rcases j with _ | _ | j
              · rfl
              · rfl
              · omega
            rw [hcts] at hwt
            obtain ⟨z, z1, z2, z3⟩ := WT_int hwt
            rw [z1] at this ⊢
            obtain ⟨y1, y2, y3⟩ := this.int_inv
            rw [y1]
            exact .i y2 y3
        | sl0 q => omega
    · omega
  have hcalls := hc.calls X none2 w av hX (fun _ _ => rfl) (fun id b s e => by cases e) (fun id id' b s s' e => by cases e) (fun id hid => by cases hid) hsz (fun k hk => by
    have hk0 : k = 0 := by have : k < 1 := hk; omega
    subst hk0
    exact hval)
  refine hcalls.mono fun e w' ⟨v', e1, e2, e3, e4⟩ => ⟨v', e1, ?_, fun id hid => ?_, ?_⟩
  · generalize hv : v' = u at e2
    cases e2 with
    | @tup _ cv c1 c2 =>
      refine .tup c1 fun k hk => ?_
      have hk2 : k < 2 := hk
      rcases k with _ | _ | k
      · have h0 := c2 0 hk2
        have h0 : VR Try.prog (XR X none2) none2 w' (.rs 36 (w45_0 da db cs)) (cv.getD 0 undef) := h0
        show VR Try.prog (XR X R) R w' (.ln (w45_0 da db cs).length) (cv.getD 0 undef)
        generalize cv.getD 0 undef = x at h0
        generalize w45_0 da db cs = pl at h0
        cases h0 with
        | rs0 _ => exact .ln (by simp)
        | rs _ _ _ _ _ h5 _ _ => exact .ln (WT_rs h5).1
      · have h1 := c2 1 hk2
        have h1 : VR Try.prog (XR X none2) none2 w' (.i .i64 (w45_1 da db cs)) (cv.getD 1 undef) := h1
        obtain ⟨q1, q2, q3⟩ := h1.int_inv
        show VR Try.prog (XR X R) R w' (.i .i64 (w45_1 da db cs)) (cv.getD 1 undef)
        rw [q1]; exact .i q2 q3
      · omega
  · have hid0 : id = 0 := by have : id < 1 := hid; omega
    subst hid0
    have hold : ∀ k, k < w.heap.size → w'.heap[k]? = w.heap[k]? := fun k hk => e4.block k hk (fun ⟨id, s, h⟩ => by cases h)
    refine hrow0.mono rfl (fun b s e hs => hold b (hRb 0 b s e).1) fun x v hv => hv.mono' (fun _ _ e => e) fun b o u hd hcell => ⟨hd, ?_⟩
    rw [← hcell]
    refine World.cell?_of_block ?_
    rcases Nat.lt_or_ge b w.heap.size with hb | hb
    · exact hold b hb
    · exfalso
      have : w.heap[b]? = none := Array.getElem?_eq_none hb
      simp [World.cell?, this] at hcell
  · exact ⟨e4.os, e4.tape, e4.output, e4.size, fun k hk hY => e4.block k hk (fun ⟨id, s, h⟩ => by cases h)⟩
/-- Both ways to call it. -/
noncomputable def e45b (args : List AV) (rows : List Blk) : Option (Bool × AV × List Blk) := match args, rows with
  | [.agg [.i .i64 da, .i .i64 db, .sl 0 0 n]], [.row 64 cs] => some (Nat.beq n cs.length && g45 da db cs, .tup [.ln (w45_0 da db cs).length, .i .i64 (w45_1 da db cs)], [.row 64 cs])
  | args, rows => e45 args rows
theorem e45b_ok (args : List AV) (rows : List Blk) (pre : Bool) (v : AV) (rows' : List Blk) (h : e45b args rows = some (pre, v, rows')) (hp : pre = true) : Con Try.prog 45 args rows v rows' := by
  unfold e45b at h
  split at h
  · cases h
    obtain ⟨h1, h2⟩ := Bool.and_eq_true_iff.1 hp
    have h1 := Nat.eq_of_beq_eq_true h1
    subst h1
    exact con45r _ _ _ h2
  · exact e45_ok _ _ _ _ _ h hp
end Go.Proofs.Ytgifjphinkbcaaa

set_option linter.unusedVariables false
namespace Go.Proofs.Ytgifjphinkbcaaa
open Go Go.Ev
noncomputable def e19 (args : List AV) (rows : List Blk) : Option (Bool × AV × List Blk) := match args, rows with
  | [], [] => some (true, .b true, [])
  | _, _ => none
theorem e19_ok (args : List AV) (rows : List Blk) (pre : Bool) (v : AV) (rows' : List Blk) (h : e19 args rows = some (pre, v, rows')) (hp : pre = true) : Con Try.prog 19 args rows v rows' := by
  unfold e19 at h
  split at h
  · cases h; exact lives_con
  · cases h
-- SPEC 19
end Go.Proofs.Ytgifjphinkbcaaa

set_option maxRecDepth 100000
set_option linter.unusedVariables false
namespace Go.Proofs.Ytgifjphinkbcaaa
open Go Go.Ev
noncomputable def SQ14 : Ev.Spec := insS 45 e45b (insS 21 e21 (insS 19 e19 (S0)))
theorem SQ14_ok : SpecOK Try.prog SQ14 := insS_ok e45b_ok (insS_ok e21_ok (insS_ok e19_ok (S0_ok)))
end Go.Proofs.Ytgifjphinkbcaaa

set_option maxRecDepth 100000
set_option maxHeartbeats 0
set_option linter.unusedVariables false
namespace Go.Proofs.Ytgifjphinkbcaaa
open Go Go.Ev

/-! ### RidgeFewer -/
noncomputable def c14 : Code := match Try.f14.body with | some c => c | _ => .skip
theorem lok14 : LOK Try.prog SQ14 (ro 14) (fun _ _ => none) 0 false c14 [] :=
  lok_lo (fun _ _ _ _ _ _ _ h _ => by cases h) c14 [] false (locate_nil _) (by kernel_rfl)
noncomputable def t14 (da db : Int) (cs : List (List AV)) (x y : Int) : Tr ((Bool)) :=
  .cn (g21 da db cs) (.cn (w21_0 da db cs) (.lf (true)) (.cn (g45 da db cs) (.cn (w45_1 da db cs != 0) (.lf (true)) (.cn ((↑cs.length : Int) == 0) (.lf (true)) (.cn ((cs.length * 16).ble 140737488355328) (.cn (decide ((↑cs.length : Int) = 0)) (.nn) (.cn (inb ((IntKind.i64.wrap x).tmod (↑cs.length : Int)) cs.length && (0 + ((IntKind.i64.wrap x).tmod (↑cs.length : Int)).toNat).blt cs.length) (.cn ((0 + ((IntKind.i64.wrap x).tmod (↑cs.length : Int)).toNat).blt cs.length) (.cn (inb ((IntKind.i64.wrap x).tmod (↑cs.length : Int)) cs.length && (0 + ((IntKind.i64.wrap x).tmod (↑cs.length : Int)).toNat).blt cs.length) (.cn ((0 + ((IntKind.i64.wrap x).tmod (↑cs.length : Int)).toNat).blt cs.length) (.cn (cs.length.beq (cs.set (0 + ((IntKind.i64.wrap x).tmod (↑cs.length : Int)).toNat) (setCs (cs.getD (0 + ((IntKind.i64.wrap x).tmod (↑cs.length : Int)).toNat) []) 1 [AV.i IntKind.i64 (IntKind.i64.wrap (fI (cs.getD (0 + ((IntKind.i64.wrap x).tmod (↑cs.length : Int)).toNat) []) 1 + 1))])).length && g45 da db (cs.set (0 + ((IntKind.i64.wrap x).tmod (↑cs.length : Int)).toNat) (setCs (cs.getD (0 + ((IntKind.i64.wrap x).tmod (↑cs.length : Int)).toNat) []) 1 [AV.i IntKind.i64 (IntKind.i64.wrap (fI (cs.getD (0 + ((IntKind.i64.wrap x).tmod (↑cs.length : Int)).toNat) []) 1 + 1))])) && true) (.cn (w45_1 da db (cs.set (0 + ((IntKind.i64.wrap x).tmod (↑cs.length : Int)).toNat) (setCs (cs.getD (0 + ((IntKind.i64.wrap x).tmod (↑cs.length : Int)).toNat) []) 1 [AV.i IntKind.i64 (IntKind.i64.wrap (fI (cs.getD (0 + ((IntKind.i64.wrap x).tmod (↑cs.length : Int)).toNat) []) 1 + 1))])) == 0) (.cn (decide ((↑(w45_0 da db (cs.set (0 + ((IntKind.i64.wrap x).tmod (↑cs.length : Int)).toNat) (setCs (cs.getD (0 + ((IntKind.i64.wrap x).tmod (↑cs.length : Int)).toNat) []) 1 [AV.i IntKind.i64 (IntKind.i64.wrap (fI (cs.getD (0 + ((IntKind.i64.wrap x).tmod (↑cs.length : Int)).toNat) []) 1 + 1))]))).length : Int) < (↑(w45_0 da db cs).length : Int))) (.lf (false)) (.cn (decide ((↑(w45_0 da db (cs.set (0 + ((IntKind.i64.wrap x).tmod (↑cs.length : Int)).toNat) (setCs (cs.getD (0 + ((IntKind.i64.wrap x).tmod (↑cs.length : Int)).toNat) []) 1 [AV.i IntKind.i64 (IntKind.i64.wrap (fI (cs.getD (0 + ((IntKind.i64.wrap x).tmod (↑cs.length : Int)).toNat) []) 1 + 1))]))).length : Int) > IntKind.i64.wrap ((↑(w45_0 da db cs).length : Int) + 1))) (.lf (false)) (.cn (g45 (IntKind.i64.wrap (da - IntKind.i64.wrap y)) db cs) (.cn (w45_1 (IntKind.i64.wrap (da - IntKind.i64.wrap y)) db cs != 0) (.lf (true)) (.cn (decide ((↑(w45_0 (IntKind.i64.wrap (da - IntKind.i64.wrap y)) db cs).length : Int) ≥ (↑(w45_0 da db cs).length : Int))) (.lf (true)) (.lf (false)))) (.nn)))) (.cn (g45 (IntKind.i64.wrap (da - IntKind.i64.wrap y)) db cs) (.cn (w45_1 (IntKind.i64.wrap (da - IntKind.i64.wrap y)) db cs != 0) (.lf (true)) (.cn (decide ((↑(w45_0 (IntKind.i64.wrap (da - IntKind.i64.wrap y)) db cs).length : Int) ≥ (↑(w45_0 da db cs).length : Int))) (.lf (true)) (.lf (false)))) (.nn))) (.nn)) (.nn)) (.nn)) (.nn)) (.nn))) (.nn)))) (.nn))) (.nn)
noncomputable def g14 (da db : Int) (cs : List (List AV)) (x y : Int) : Bool := (t14 da db cs x y).g
noncomputable def w14_0 (da db : Int) (cs : List (List AV)) (x y : Int) : Bool := (t14 da db cs x y).val
theorem eq14 (da db : Int) (cs : List (List AV)) (x y : Int) : evF Try.prog SQ14 (ro 14) (fun _ _ => none) Try.f14 [.agg [.i .i64 da, .i .i64 db, .rs 64 cs], .i .u8 x, .i .u16 y] = (t14 da db cs x y).opt (fun (x : (Bool)) => (.b x : AV)) := by kernel_rfl
theorem con14 (da db : Int) (cs : List (List AV)) (x y : Int) (h : g14 da db cs x y = true) : Con Try.prog 14 [.agg [.i .i64 da, .i .i64 db, .rs 64 cs], .i .u8 x, .i .u16 y] [] (.b (w14_0 da db cs x y)) [] :=
  con_of SQ14_ok mixed Try.func14 (c := c14) rfl (names 14 _ Try.func14) lok14 ((eq14 da db cs x y).trans (Tr.sound _ _ h))
noncomputable def e14 (args : List AV) (rows : List Blk) : Option (Bool × AV × List Blk) := match args, rows with
  | [.agg [.i .i64 da, .i .i64 db, .rs 64 cs], .i .u8 x, .i .u16 y], [] => some (g14 da db cs x y, .b (w14_0 da db cs x y), [])
  | _, _ => none
theorem e14_ok (args : List AV) (rows : List Blk) (pre : Bool) (v : AV) (rows' : List Blk) (h : e14 args rows = some (pre, v, rows')) (hp : pre = true) : Con Try.prog 14 args rows v rows' := by
  unfold e14 at h
  split at h
  · cases h; exact con14 _ _ _ _ _ hp
  · cases h
-- SPEC 14
end Go.Proofs.Ytgifjphinkbcaaa

set_option maxRecDepth 100000
set_option linter.unusedVariables false
namespace Go.Proofs.Ytgifjphinkbcaaa
open Go Go.Ev
/-! ### RidgeFewer -/
theorem getD_set {α : Type} (l : List α) (c j : Nat) (v d : α) (hc : c < l.length) : (l.set c v).getD j d = if j = c then v else l.getD j d := by
  rw [List.getD_eq_getElem?_getD, List.getElem?_set]
  by_cases e : c = j
  · subst e
    rw [if_pos rfl, if_pos hc, if_pos rfl]; rfl
  · rw [if_neg e, if_neg fun e' => e e'.symm, ← List.getD_eq_getElem?_getD]
theorem fewer_law (da db : Int) (cs : List (List AV)) (hcs : ∀ j, j < cs.length → (cs.getD j []).length = 2) {x y : Int} (hx : 0 ≤ x ∧ x ≤ 255) (hy : 0 ≤ y ∧ y ≤ 65535) (hda : -9223372036854775808 ≤ da ∧ da ≤ 9223372036854775807) : g14 da db cs x y = true ∧ w14_0 da db cs x y = true := by
  unfold g14 w14_0 t14
  obtain ⟨wd1, wd2⟩ := wide_val da db cs
  rw [wd1]
  cases hw : w21_0 da db cs with
  | true => exact ⟨rfl, rfl⟩
  | false =>
  obtain ⟨p1, p2, p3, p4⟩ := plan_val da db cs
  rw [p1, p2]
  by_cases h0 : w24_0 da db cs = 0
  · obtain ⟨hF, rs, h1, h2, h3⟩ := p4 h0
    have ha := hF.a
    have hl := hF.l
    have e0 : (w24_0 da db cs != 0) = false := by rw [h0]; rfl
    rw [e0]
    by_cases hn : cs.length = 0
    · have e1 : ((cs.length : Int) == 0) = true := by rw [beq_iff_eq]; omega
      rw [e1]
      exact ⟨rfl, rfl⟩
    · have e1 : ((cs.length : Int) == 0) = false := by rw [beq_eq_false_iff_ne]; omega
      have e2 : (cs.length * 16).ble 140737488355328 = true := by rw [Nat.ble_eq]; omega
      have e3 : decide ((cs.length : Int) = 0) = false := decide_eq_false (by omega)
      have ex : IntKind.i64.wrap x = x := wrap64 (by omega) (by omega)
      have ey : IntKind.i64.wrap y = y := wrap64 (by omega) (by omega)
      have em : x.tmod (cs.length : Int) = x % (cs.length : Int) := Int.tmod_eq_emod_of_nonneg (by omega)
      have hmb : 0 ≤ x % (cs.length : Int) ∧ x % (cs.length : Int) < (cs.length : Int) := ⟨Int.emod_nonneg _ (by omega), Int.emod_lt_of_pos _ (by omega)⟩
      obtain ⟨c, hc⟩ : ∃ c : Nat, x % (cs.length : Int) = (c : Int) := ⟨(x % (cs.length : Int)).toNat, by omega⟩
      have hcl : c < cs.length := by omega
      have e4 : (inb (c : Int) cs.length && c.blt cs.length) = true := by
        rw [inb_true hcl]
        simp only [Nat.blt, Bool.true_and, Nat.ble_eq]
        exact hcl
      have e5 : c.blt cs.length = true := by
        simp only [Nat.blt, Nat.ble_eq]
        exact hcl
      have hcc := hF.c c hcl
      unfold okCut at hcc
      have e6 : IntKind.i64.wrap (fI (cs.getD c []) 1 + 1) = mn cs c + 1 := by
        show IntKind.i64.wrap (mn cs c + 1) = _
        exact wrap64 (by omega) (by omega)
      have e7 : IntKind.i64.wrap (da - y) = da - y := wrap64 (by omega) (by omega)
      rw [e1, e2, e3, ex, ey, em, hc, Int.toNat_natCast, Nat.zero_add, e4, e5, e6, e7]
      generalize hcs' : cs.set c (setCs (cs.getD c []) 1 [AV.i IntKind.i64 (mn cs c + 1)]) = cs'
      have hlen : cs'.length = cs.length := by rw [← hcs', List.length_set]
      have hget : ∀ j, cs'.getD j [] = if j = c then setCs (cs.getD c []) 1 [AV.i IntKind.i64 (mn cs c + 1)] else cs.getD j [] := fun j => by rw [← hcs', getD_set _ _ _ _ _ hcl]
      have h2c := hcs c hcl
      have hln : ∀ j, ln cs j = ln cs' j := fun j => by
        unfold ln
        rw [hget j]
        by_cases e : j = c
        · subst e
          rw [if_pos rfl, fI_set (by omega), if_neg (by omega)]
        · rw [if_neg e]
      have hmn : ∀ j, mn cs' j = mn cs j + Go.Proofs.Ytgifjphinkbcaaa.e1 c j := fun j => by
        unfold mn Go.Proofs.Ytgifjphinkbcaaa.e1
        rw [hget j]
        by_cases e : j = c
        · subst e
          rw [if_pos rfl, if_pos rfl, fI_set (by omega), if_pos rfl]
          rfl
        · rw [if_neg e, if_neg e, Int.add_zero]
      have hbeq : cs.length.beq cs'.length = true := by rw [hlen]; exact Nat.beq_refl _
      obtain ⟨q1, q2, q3, q4⟩ := plan_val da db cs'
      obtain ⟨s1, s2, s3, s4⟩ := plan_val (da - y) db cs
      have hl0 : ((w45_0 da db cs).length : Int) = (mq da db cs (mn cs) : Int) := by rw [h3, plAV_len, h1.len]
      have hmn0 : ∀ i, i < cs.length → 0 ≤ mn cs i := fun i hi => by
        have := hF.c i hi
        unfold okCut at this
        omega
      -- the last part
      have last : ∀ a b : Tr Bool, a = .cn (g45 (da - y) db cs) (.cn (w45_1 (da - y) db cs != 0) (.lf true) (.cn (decide (((w45_0 (da - y) db cs).length : Int) ≥ ((w45_0 da db cs).length : Int))) (.lf true) (.lf false))) .nn → a.g = true ∧ a.val = true := by
        rintro a - rfl
        rw [s1, s2]
        by_cases hs : w24_0 (da - y) db cs = 0
        · obtain ⟨hF3, rs3, k1, k2, k3⟩ := s4 hs
          have e8 : (w24_0 (da - y) db cs != 0) = false := by rw [hs]; rfl
          have hle := mq_shorter hF hF3 (by omega) hmn0
          have hl3 : ((w45_0 (da - y) db cs).length : Int) = (mq (da - y) db cs (mn cs) : Int) := by rw [k3, plAV_len, k1.len]
          rw [e8, hl3, hl0, decide_eq_true (by omega)]
          exact ⟨rfl, rfl⟩
        · have e8 : (w24_0 (da - y) db cs != 0) = true := by rw [bne_iff_ne]; exact hs
          rw [e8]
          exact ⟨rfl, rfl⟩
      rw [hbeq, q1, q2]
      by_cases hq : w24_0 da db cs' = 0
      · obtain ⟨hF2, rs2, k1, k2, k3⟩ := q4 hq
        obtain ⟨m1, m2⟩ := mq_more hF hF2 hlen.symm (fun i _ => hln i) hcl fun i _ => hmn i
        have hl2 : ((w45_0 da db cs').length : Int) = (mq da db cs' (mn cs') : Int) := by rw [k3, plAV_len, k1.len]
        have hb : (mq da db cs (mn cs) : Int) ≤ 12 := by rw [← h1.len]; omega
        have e9 : IntKind.i64.wrap ((mq da db cs (mn cs) : Int) + 1) = (mq da db cs (mn cs) : Int) + 1 := wrap64 (by omega) (by omega)
        have e8 : (w24_0 da db cs' == 0) = true := by rw [hq]; rfl
        have l := last _ (.lf true) rfl
        rw [hl0] at l
        rw [e8, hl2, hl0, e9, decide_eq_false (show ¬ ((mq da db cs' (mn cs') : Int) < (mq da db cs (mn cs) : Int)) by omega), decide_eq_false (show ¬ ((mq da db cs' (mn cs') : Int) > (mq da db cs (mn cs) : Int) + 1) by omega)]
        exact l
      · have e8 : (w24_0 da db cs' == 0) = false := by rw [beq_eq_false_iff_ne]; exact hq
        have l := last _ (.lf true) rfl
        rw [e8]
        exact l
  · have e5 : (w24_0 da db cs != 0) = true := by rw [bne_iff_ne]; exact h0
    rw [e5]
    exact ⟨rfl, rfl⟩
theorem rods_of2 {a : AV} (h : TyArg Try.prog 35 a) : ∃ da db cs, a = .agg [.i .i64 da, .i .i64 db, .rs 64 cs] ∧ (∀ j, j < cs.length → (cs.getD j []).length = 2) ∧ -9223372036854775808 ≤ da ∧ da ≤ 9223372036854775807 := by
  obtain ⟨bs, rfl, hw⟩ := ty_agg (c := [.int .i64, .int .i64, .sl 64]) (by kernel_rfl) (by kernel_rfl) h
  obtain ⟨b0, q0, rfl, w0, hw⟩ := WTs_cons hw
  obtain ⟨b1, q1, rfl, w1, hw⟩ := WTs_cons hw
  obtain ⟨b3, q3, rfl, w3, hw⟩ := WTs_cons hw
  obtain rfl := WTs_nil hw
  obtain ⟨ra, rfl, r1, r2⟩ := WT_int w0
  obtain ⟨rb, rfl, _⟩ := WT_int w1
  obtain ⟨ps, rfl, _, hp, _⟩ := WT_sl w3
  refine ⟨ra, rb, ps, rfl, fun j hj => ?_, r1, r2⟩
  have e : (cts Try.prog 64).length = 2 := by kernel_rfl
  rw [← e]
  refine hp _ ?_
  rw [List.getD_eq_getElem?_getD, List.getElem?_eq_getElem hj]
  exact List.getElem_mem hj
theorem u16_of {a : AV} (h : TyArg Try.prog 62 a) : ∃ x, a = .i .u16 x ∧ 0 ≤ x ∧ x ≤ 65535 := by
  obtain ⟨n, e, n1, n2⟩ := WT_int (ty_one (c := .int .u16) (by kernel_rfl) (by kernel_rfl) h)
  exact ⟨n, e, n1, n2⟩
theorem u8_of {a : AV} (h : TyArg Try.prog 5 a) : ∃ x, a = .i .u8 x ∧ 0 ≤ x ∧ x ≤ 255 := by
  obtain ⟨n, e, n1, n2⟩ := WT_int (ty_one (c := .int .u8) (by kernel_rfl) (by kernel_rfl) h)
  exact ⟨n, e, n1, n2⟩
theorem ridgeFewer_law (avs : List AV) (h : TyArgs Try.prog Try.f14.params.toList avs) : Con Try.prog 14 avs [] (.b true) [] := by
  obtain ⟨a0, r0, rfl, h0, h⟩ := tyArgs_cons h
  obtain ⟨a1, r1, rfl, h1, h⟩ := tyArgs_cons h
  obtain ⟨a2, r2, rfl, h2, h⟩ := tyArgs_cons h
  obtain rfl := tyArgs_nil h
  obtain ⟨da, db, cs, rfl, hcs, hda⟩ := rods_of2 h0
  obtain ⟨x, rfl, x1⟩ := u8_of h1
  obtain ⟨y, rfl, y1⟩ := u16_of h2
  obtain ⟨h1, h2⟩ := fewer_law da db cs hcs x1 y1 hda
  have := con14 da db cs x y h1
  rw [h2] at this
  exact this
end Go.Proofs.Ytgifjphinkbcaaa
