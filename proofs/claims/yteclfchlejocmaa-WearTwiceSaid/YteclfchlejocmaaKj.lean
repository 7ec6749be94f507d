/-
  Two seasons take what one takes that takes both their spans, as far as nothing is gone below 0, and a season that takes nothing changes nothing, for every skin and any two seasons (statement WearTwice); this text is a part of that proof.
-/
import Derived.Test.YteclfchlejocmaaKg
set_option linter.unusedVariables false
set_option maxRecDepth 100000
set_option linter.unusedVariables false
namespace Go.Proofs.Yteclfchlejocmaa
open Go Go.Ev

/-! ### wear.Season -/
noncomputable def c22 : Code := match Try.f22.body with | some c => c | _ => .skip
noncomputable def s22a (ta : Int) (tb : Int) (n_1 : Int) (n_2 : Int) (n_3 : Int) (os : List (List AV)) (hs : List (List AV)) (n_4 : Int) (n_5 : Int) (n_6 : Int) (m_1 : Nat) (xs_1 : List (List AV)) (xs_2 : List (List AV)) (n_7 : Int) (n_8 : Int) (n_9 : Int) (xs_3 : List (List AV)) (ms : List (List AV)) : St :=
  { t := [(3, .p 0 0 0), (4, .rp [.int .i64, .int .i64] [.i .i64 ta, .i .i64 tb] 0), (6, .p 2 0 0), (7, .i .i64 n_1), (48, .i .i64 n_2), (49, .i .i64 n_3)], m := [(0, .lrow 30 [[.rs 32 os, .rs 71 hs, .i .i64 n_4, .i .i64 n_5, .i .i64 n_6, .sl 26 0 m_1]]), (1, .dead), (2, .row 30 [[.rs 32 xs_1, .rs 71 xs_2, .i .i64 n_7, .i .i64 n_8, .i .i64 n_9, .rs 46 xs_3]]), (3, .dead), (4, .dead), (5, .dead), (6, .dead), (7, .dead), (8, .dead), (9, .dead), (10, .dead), (11, .dead), (12, .dead), (13, .dead), (14, .dead), (15, .dead), (16, .dead), (17, .dead), (18, .dead), (19, .dead), (20, .dead), (21, .dead), (22, .dead), (23, .dead), (24, .dead), (25, .dead), (26, .row 46 ms)], nx := 27, nt := 67 }
noncomputable def lp22a : Code := loopAt c22 [true, true, true, true, true, true, false, true, false]
noncomputable def ex22a (ta : Int) (tb : Int) (n_1 : Int) (n_2 : Int) (n_3 : Int) (os : List (List AV)) (hs : List (List AV)) (n_4 : Int) (n_5 : Int) (n_6 : Int) (m_1 : Nat) (xs_1 : List (List AV)) (xs_2 : List (List AV)) (n_7 : Int) (n_8 : Int) (n_9 : Int) (xs_3 : List (List AV)) (ms : List (List AV)) : Bool := false
noncomputable def df22a (ta : Int) (tb : Int) (n_1 : Int) (n_2 : Int) (n_3 : Int) (os : List (List AV)) (hs : List (List AV)) (n_4 : Int) (n_5 : Int) (n_6 : Int) (m_1 : Nat) (xs_1 : List (List AV)) (xs_2 : List (List AV)) (n_7 : Int) (n_8 : Int) (n_9 : Int) (xs_3 : List (List AV)) (ms : List (List AV)) : Bool := (inb n_3 m_1 && (0 + n_3.toNat).blt ms.length) && (((0 + n_3.toNat).blt ms.length) && ((inb n_3 m_1 && (0 + n_3.toNat).blt ms.length) && ((0 + n_3.toNat).blt ms.length)))
noncomputable def nx22a_0 (ta : Int) (tb : Int) (n_1 : Int) (n_2 : Int) (n_3 : Int) (os : List (List AV)) (hs : List (List AV)) (n_4 : Int) (n_5 : Int) (n_6 : Int) (m_1 : Nat) (xs_1 : List (List AV)) (xs_2 : List (List AV)) (n_7 : Int) (n_8 : Int) (n_9 : Int) (xs_3 : List (List AV)) (ms : List (List AV)) : List (List AV) := ms.set (0 + n_3.toNat) (setCs (ms.getD (0 + n_3.toNat) []) 2 [AV.i IntKind.i64 (bmax (Wr (c2 (ms.getD (0 + n_3.toNat) []) - tb)) 0), AV.i IntKind.i64 (bmax (Wr (c3 (ms.getD (0 + n_3.toNat) []) - ta)) 0)])
noncomputable def a22a (ta : Int) (tb : Int) (n_1 : Int) (n_2 : Int) (os : List (List AV)) (hs : List (List AV)) (n_4 : Int) (n_5 : Int) (n_6 : Int) (m_1 : Nat) (xs_1 : List (List AV)) (xs_2 : List (List AV)) (n_7 : Int) (n_8 : Int) (n_9 : Int) (xs_3 : List (List AV)) (ms : List (List AV)) : Nat → (List (List AV))
  | 0 => ms
  | k + 1 => (nx22a_0 ta tb n_1 n_2 ((k : Nat) : Int) os hs n_4 n_5 n_6 m_1 xs_1 xs_2 n_7 n_8 n_9 xs_3 ((a22a ta tb n_1 n_2 os hs n_4 n_5 n_6 m_1 xs_1 xs_2 n_7 n_8 n_9 xs_3 ms k)))
noncomputable def e22a (ta : Int) (tb : Int) (n_1 : Int) (n_2 : Int) (os : List (List AV)) (hs : List (List AV)) (n_4 : Int) (n_5 : Int) (n_6 : Int) (m_1 : Nat) (xs_1 : List (List AV)) (xs_2 : List (List AV)) (n_7 : Int) (n_8 : Int) (n_9 : Int) (xs_3 : List (List AV)) (ms : List (List AV)) (k : Nat) : Bool := ex22a ta tb n_1 n_2 ((k : Nat) : Int) os hs n_4 n_5 n_6 m_1 xs_1 xs_2 n_7 n_8 n_9 xs_3 (a22a ta tb n_1 n_2 os hs n_4 n_5 n_6 m_1 xs_1 xs_2 n_7 n_8 n_9 xs_3 ms k)
noncomputable def d22a (ta : Int) (tb : Int) (n_1 : Int) (n_2 : Int) (os : List (List AV)) (hs : List (List AV)) (n_4 : Int) (n_5 : Int) (n_6 : Int) (m_1 : Nat) (xs_1 : List (List AV)) (xs_2 : List (List AV)) (n_7 : Int) (n_8 : Int) (n_9 : Int) (xs_3 : List (List AV)) (ms : List (List AV)) (k : Nat) : Bool := df22a ta tb n_1 n_2 ((k : Nat) : Int) os hs n_4 n_5 n_6 m_1 xs_1 xs_2 n_7 n_8 n_9 xs_3 (a22a ta tb n_1 n_2 os hs n_4 n_5 n_6 m_1 xs_1 xs_2 n_7 n_8 n_9 xs_3 ms k)
noncomputable def st22a (ta : Int) (tb : Int) (n_1 : Int) (n_2 : Int) (os : List (List AV)) (hs : List (List AV)) (n_4 : Int) (n_5 : Int) (n_6 : Int) (m_1 : Nat) (xs_1 : List (List AV)) (xs_2 : List (List AV)) (n_7 : Int) (n_8 : Int) (n_9 : Int) (xs_3 : List (List AV)) (ms : List (List AV)) (k : Nat) : St := s22a ta tb n_1 n_2 ((k : Nat) : Int) os hs n_4 n_5 n_6 m_1 xs_1 xs_2 n_7 n_8 n_9 xs_3 (a22a ta tb n_1 n_2 os hs n_4 n_5 n_6 m_1 xs_1 xs_2 n_7 n_8 n_9 xs_3 ms k)
noncomputable def N22a (ta : Int) (tb : Int) (n_1 : Int) (n_2 : Int) (os : List (List AV)) (hs : List (List AV)) (n_4 : Int) (n_5 : Int) (n_6 : Int) (m_1 : Nat) (xs_1 : List (List AV)) (xs_2 : List (List AV)) (n_7 : Int) (n_8 : Int) (n_9 : Int) (xs_3 : List (List AV)) (ms : List (List AV)) : Nat := n_2.toNat
noncomputable def g22a (ta : Int) (tb : Int) (n_1 : Int) (n_2 : Int) (os : List (List AV)) (hs : List (List AV)) (n_4 : Int) (n_5 : Int) (n_6 : Int) (m_1 : Nat) (xs_1 : List (List AV)) (xs_2 : List (List AV)) (n_7 : Int) (n_8 : Int) (n_9 : Int) (xs_3 : List (List AV)) (ms : List (List AV)) : Bool := decide ((n_2 : Int) ≤ 9223372036854775807) && allN (d22a ta tb n_1 n_2 os hs n_4 n_5 n_6 m_1 xs_1 xs_2 n_7 n_8 n_9 xs_3 ms) (N22a ta tb n_1 n_2 os hs n_4 n_5 n_6 m_1 xs_1 xs_2 n_7 n_8 n_9 xs_3 ms)
noncomputable def l22a (st : St) : Option (List (Bool × Ex × St)) := match normV Try.prog [3, 4, 6, 7, 48, 49] 27 st with
  | some ([.p 0 0 0, .rp [.int .i64, .int .i64] [.i .i64 ta, .i .i64 tb] 0, .p 2 0 0, .i .i64 n_1, .i .i64 n_2, .i .i64 (.ofNat 0)], .lrow 30 [[.rs 32 os, .rs 71 hs, .i .i64 n_4, .i .i64 n_5, .i .i64 n_6, .sl 26 0 m_1]] :: .dead :: .row 30 [[.rs 32 xs_1, .rs 71 xs_2, .i .i64 n_7, .i .i64 n_8, .i .i64 n_9, .rs 46 xs_3]] :: .dead :: .dead :: .dead :: .dead :: .dead :: .dead :: .dead :: .dead :: .dead :: .dead :: .dead :: .dead :: .dead :: .dead :: .dead :: .dead :: .dead :: .dead :: .dead :: .dead :: .dead :: .dead :: .dead :: .row 46 ms :: [], 67) => some [(g22a ta tb n_1 n_2 os hs n_4 n_5 n_6 m_1 xs_1 xs_2 n_7 n_8 n_9 xs_3 ms, .ext 1, st22a ta tb n_1 n_2 os hs n_4 n_5 n_6 m_1 xs_1 xs_2 n_7 n_8 n_9 xs_3 ms (N22a ta tb n_1 n_2 os hs n_4 n_5 n_6 m_1 xs_1 xs_2 n_7 n_8 n_9 xs_3 ms))]
  | _ => none
noncomputable def L22 : LSpec := fun p st => match p with
  | [false, true, false, true, true, true, true, true, true] => l22a st
  | _ => none
noncomputable def tr22a (ta : Int) (tb : Int) (n_1 : Int) (n_2 : Int) (n_3 : Int) (os : List (List AV)) (hs : List (List AV)) (n_4 : Int) (n_5 : Int) (n_6 : Int) (m_1 : Nat) (xs_1 : List (List AV)) (xs_2 : List (List AV)) (n_7 : Int) (n_8 : Int) (n_9 : Int) (xs_3 : List (List AV)) (ms : List (List AV)) : Option (Ex × St) := cond (inb n_3 m_1 && (0 + n_3.toNat).blt ms.length) (cond ((0 + n_3.toNat).blt ms.length) (cond (inb n_3 m_1 && (0 + n_3.toNat).blt ms.length) (cond ((0 + n_3.toNat).blt ms.length) (some (.nrm, s22a ta tb n_1 n_2 (IntKind.i64.wrap (n_3 + 1)) os hs n_4 n_5 n_6 m_1 xs_1 xs_2 n_7 n_8 n_9 xs_3 (ms.set (0 + n_3.toNat) (setCs (ms.getD (0 + n_3.toNat) []) 2 [AV.i IntKind.i64 (bmax (Wr (c2 (ms.getD (0 + n_3.toNat) []) - tb)) 0), AV.i IntKind.i64 (bmax (Wr (c3 (ms.getD (0 + n_3.toNat) []) - ta)) 0)])))) (none)) (none)) (none)) (none)
theorem round22a (ta : Int) (tb : Int) (n_1 : Int) (n_2 : Int) (n_3 : Int) (os : List (List AV)) (hs : List (List AV)) (n_4 : Int) (n_5 : Int) (n_6 : Int) (m_1 : Nat) (xs_1 : List (List AV)) (xs_2 : List (List AV)) (n_7 : Int) (n_8 : Int) (n_9 : Int) (xs_3 : List (List AV)) (ms : List (List AV)) : round Try.prog Sp (ro 22) L22 lp22a [false, true, false, true, true, true, true, true, true] [3, 4, 6, 7, 48, 49] 27 (s22a ta tb n_1 n_2 n_3 os hs n_4 n_5 n_6 m_1 xs_1 xs_2 n_7 n_8 n_9 xs_3 ms) =
    cond (decide (n_3 < n_2)) (tr22a ta tb n_1 n_2 n_3 os hs n_4 n_5 n_6 m_1 xs_1 xs_2 n_7 n_8 n_9 xs_3 ms) (some (.ext 1, s22a ta tb n_1 n_2 n_3 os hs n_4 n_5 n_6 m_1 xs_1 xs_2 n_7 n_8 n_9 xs_3 ms)) := by kernel_rfl
theorem step22a (ta : Int) (tb : Int) (n_1 : Int) (n_2 : Int) (n_3 : Int) (os : List (List AV)) (hs : List (List AV)) (n_4 : Int) (n_5 : Int) (n_6 : Int) (m_1 : Nat) (xs_1 : List (List AV)) (xs_2 : List (List AV)) (n_7 : Int) (n_8 : Int) (n_9 : Int) (xs_3 : List (List AV)) (ms : List (List AV)) (hd : df22a ta tb n_1 n_2 n_3 os hs n_4 n_5 n_6 m_1 xs_1 xs_2 n_7 n_8 n_9 xs_3 ms = true) : tr22a ta tb n_1 n_2 n_3 os hs n_4 n_5 n_6 m_1 xs_1 xs_2 n_7 n_8 n_9 xs_3 ms = cond (ex22a ta tb n_1 n_2 n_3 os hs n_4 n_5 n_6 m_1 xs_1 xs_2 n_7 n_8 n_9 xs_3 ms) (some ((.ret, s22a ta tb n_1 n_2 n_3 os hs n_4 n_5 n_6 m_1 xs_1 xs_2 n_7 n_8 n_9 xs_3 ms))) (some (.nrm, s22a ta tb n_1 n_2 (IntKind.i64.wrap (n_3 + 1)) os hs n_4 n_5 n_6 m_1 xs_1 xs_2 n_7 n_8 n_9 xs_3 (nx22a_0 ta tb n_1 n_2 n_3 os hs n_4 n_5 n_6 m_1 xs_1 xs_2 n_7 n_8 n_9 xs_3 ms))) := by
  unfold df22a at hd
  unfold ex22a nx22a_0 tr22a
  generalize (inb n_3 m_1 && (0 + n_3.toNat).blt ms.length) = t0 at *
  generalize ((0 + n_3.toNat).blt ms.length) = t1 at *
  cases t0 <;> cases t1 <;> first | rfl | (cases hd)
theorem lok22a {st : St} {outs : List (Bool × Ex × St)} {e : Ex} {s : St} {lo : Nat} (hlo : lo ≤ st.nx) (hl : l22a st = some outs) (hch : Chosen outs e s) (hz : lo = 0) :
    ∃ keep nb, lo ≤ nb ∧ LB Try.prog Sp (ro 22) L22 lp22a [false, true, false, true, true, true, true, true, true] keep nb st e s := by
  unfold l22a at hl
  split at hl
  · rename_i ta tb n_1 n_2 os hs n_4 n_5 n_6 m_1 xs_1 xs_2 n_7 n_8 n_9 xs_3 ms hno
    cases hl
    have hno := normV_norm hno
    refine LB_forN (n := (N22a ta tb n_1 n_2 os hs n_4 n_5 n_6 m_1 xs_1 xs_2 n_7 n_8 n_9 xs_3 ms)) (g := g22a ta tb n_1 n_2 os hs n_4 n_5 n_6 m_1 xs_1 xs_2 n_7 n_8 n_9 xs_3 ms) (stI := fun k => st22a ta tb n_1 n_2 os hs n_4 n_5 n_6 m_1 xs_1 xs_2 n_7 n_8 n_9 xs_3 ms k) (fin := (.ext 1, st22a ta tb n_1 n_2 os hs n_4 n_5 n_6 m_1 xs_1 xs_2 n_7 n_8 n_9 xs_3 ms (N22a ta tb n_1 n_2 os hs n_4 n_5 n_6 m_1 xs_1 xs_2 n_7 n_8 n_9 xs_3 ms))) hno (Nat.le_trans (Nat.le_of_eq hz) (Nat.zero_le _)) hch (by simp) (fun hg => ?_)
    obtain ⟨hb, hall⟩ := Bool.and_eq_true_iff.1 hg
    have hb := of_decide_eq_true hb
    refine ⟨fun k hk => ?_, ?_⟩
    · have h1 := lt_toNat hk
      have hd := allN_at hall k hk
      have hw := wrap_succ h1 hb
      show round _ _ _ _ _ _ _ _ (s22a ta tb n_1 n_2 ((k : Nat) : Int) os hs n_4 n_5 n_6 m_1 xs_1 xs_2 n_7 n_8 n_9 xs_3 (a22a ta tb n_1 n_2 os hs n_4 n_5 n_6 m_1 xs_1 xs_2 n_7 n_8 n_9 xs_3 ms k)) = _
      rw [round22a, show decide _ = true from decide_eq_true h1, cond_true, step22a _ _ _ _ _ _ _ _ _ _ _ _ _ _ _ _ _ _ hd, hw]
      show cond (e22a ta tb n_1 n_2 os hs n_4 n_5 n_6 m_1 xs_1 xs_2 n_7 n_8 n_9 xs_3 ms k) _ _ = _
      rw [show e22a ta tb n_1 n_2 os hs n_4 n_5 n_6 m_1 xs_1 xs_2 n_7 n_8 n_9 xs_3 ms k = false from rfl]
      rfl
    · show round _ _ _ _ _ _ _ _ (s22a ta tb n_1 n_2 (((N22a ta tb n_1 n_2 os hs n_4 n_5 n_6 m_1 xs_1 xs_2 n_7 n_8 n_9 xs_3 ms) : Nat) : Int) os hs n_4 n_5 n_6 m_1 xs_1 xs_2 n_7 n_8 n_9 xs_3 (a22a ta tb n_1 n_2 os hs n_4 n_5 n_6 m_1 xs_1 xs_2 n_7 n_8 n_9 xs_3 ms ((N22a ta tb n_1 n_2 os hs n_4 n_5 n_6 m_1 xs_1 xs_2 n_7 n_8 n_9 xs_3 ms)))) = _
      rw [round22a, show decide ((((N22a ta tb n_1 n_2 os hs n_4 n_5 n_6 m_1 xs_1 xs_2 n_7 n_8 n_9 xs_3 ms) : Nat) : Int) < (n_2 : Int)) = false from not_lt_toNat]
      rfl
  · cases hl
theorem L22_ok (q : Pl) (c : Code) (hq : locate c22 q.reverse = some (.loop c)) (st : St) (outs : List (Bool × Ex × St)) (e : Ex) (s : St) (hl : L22 q st = some outs) (hch : Chosen outs e s) :
    ∃ keep nb, LB Try.prog Sp (ro 22) L22 c q keep nb st e s := by
  unfold L22 at hl
  split at hl
  · have : locate c22 ([false, true, false, true, true, true, true, true, true] : Pl).reverse = some (.loop lp22a) := by kernel_rfl
    rw [this] at hq
    cases hq
    obtain ⟨keep, nb, _, h⟩ := lok22a (lo := 0) (Nat.zero_le _) hl hch rfl
    exact ⟨keep, nb, h⟩
  · cases hl
theorem eq22 (os hs ms : List (List AV)) (sp tl th : Int) (ta tb gain : Int) : evF Try.prog Sp (ro 22) L22 Try.f22 [.agg [.rs 32 os, .rs 71 hs, .i .i64 sp, .i .i64 tl, .i .i64 th, .rs 46 ms], .agg [.i .i64 ta, .i .i64 tb], .i .i64 gain] =
    cond (okS os) (cond (checkW os hs ms sp tl th != 0) (some (.tup [.agg [.rs 32 ([]), .rs 71 ([]), .i .i64 0, .i .i64 0, .i .i64 0, .rs 46 ([])], .i .i64 (checkW os hs ms sp tl th)])) (cond (!spB ta tb 2000) (some (.tup [.agg [.rs 32 ([]), .rs 71 ([]), .i .i64 0, .i .i64 0, .i .i64 0, .rs 46 ([])], .i .i64 1])) (cond (!inB gain 0 1000) (some (.tup [.agg [.rs 32 ([]), .rs 71 ([]), .i .i64 0, .i .i64 0, .i .i64 0, .rs 46 ([])], .i .i64 1])) (cond (decide (IntKind.i64.wrap (sp + gain) > 1000)) (some (.tup [.agg [.rs 32 ([]), .rs 71 ([]), .i .i64 0, .i .i64 0, .i .i64 0, .rs 46 ([])], .i .i64 3])) (cond (smA os hs ms) (cond (g22a ta tb 0 (↑ms.length : Int) os hs (IntKind.i64.wrap (sp + gain)) (bmax (Wr (tl - tb)) 0) (bmax (Wr (th - ta)) 0) ms.length [] [] 0 0 0 [] ms) (cond ((0 + ms.length).ble (a22a ta tb 0 (↑ms.length : Int) os hs (IntKind.i64.wrap (sp + gain)) (bmax (Wr (tl - tb)) 0) (bmax (Wr (th - ta)) 0) ms.length [] [] 0 0 0 [] ms (N22a ta tb 0 (↑ms.length : Int) os hs (IntKind.i64.wrap (sp + gain)) (bmax (Wr (tl - tb)) 0) (bmax (Wr (th - ta)) 0) ms.length [] [] 0 0 0 [] ms)).length) (some (.tup [.agg [.rs 32 os, .rs 71 hs, .i .i64 (IntKind.i64.wrap (sp + gain)), .i .i64 (bmax (Wr (tl - tb)) 0), .i .i64 (bmax (Wr (th - ta)) 0), .rs 46 (bif ms.length.beq (a22a ta tb 0 (↑ms.length : Int) os hs (IntKind.i64.wrap (sp + gain)) (bmax (Wr (tl - tb)) 0) (bmax (Wr (th - ta)) 0) ms.length [] [] 0 0 0 [] ms (N22a ta tb 0 (↑ms.length : Int) os hs (IntKind.i64.wrap (sp + gain)) (bmax (Wr (tl - tb)) 0) (bmax (Wr (th - ta)) 0) ms.length [] [] 0 0 0 [] ms)).length then a22a ta tb 0 (↑ms.length : Int) os hs (IntKind.i64.wrap (sp + gain)) (bmax (Wr (tl - tb)) 0) (bmax (Wr (th - ta)) 0) ms.length [] [] 0 0 0 [] ms (N22a ta tb 0 (↑ms.length : Int) os hs (IntKind.i64.wrap (sp + gain)) (bmax (Wr (tl - tb)) 0) (bmax (Wr (th - ta)) 0) ms.length [] [] 0 0 0 [] ms) else List.take ms.length (List.drop 0 (a22a ta tb 0 (↑ms.length : Int) os hs (IntKind.i64.wrap (sp + gain)) (bmax (Wr (tl - tb)) 0) (bmax (Wr (th - ta)) 0) ms.length [] [] 0 0 0 [] ms (N22a ta tb 0 (↑ms.length : Int) os hs (IntKind.i64.wrap (sp + gain)) (bmax (Wr (tl - tb)) 0) (bmax (Wr (th - ta)) 0) ms.length [] [] 0 0 0 [] ms))))], .i .i64 0])) (none)) (none)) (none)))))) (none) := by kernel_rfl
end Go.Proofs.Yteclfchlejocmaa

set_option maxRecDepth 100000
set_option linter.unusedVariables false
namespace Go.Proofs.Yteclfchlejocmaa
open Go Go.Ev

/-! ### ref.Season -/
noncomputable def c23 : Code := match Try.f23.body with | some c => c | _ => .skip
noncomputable def s23a (ta : Int) (tb : Int) (n_1 : Int) (n_2 : Int) (os : List (List AV)) (hs : List (List AV)) (n_3 : Int) (n_4 : Int) (n_5 : Int) (m_1 : Nat) (xs_1 : List (List AV)) (xs_2 : List (List AV)) (n_6 : Int) (n_7 : Int) (n_8 : Int) (xs_3 : List (List AV)) (ms : List (List AV)) : St :=
  { t := [(3, .p 0 0 0), (4, .rp [.int .i64, .int .i64] [.i .i64 ta, .i .i64 tb] 0), (6, .p 2 0 0), (7, .i .i64 n_1), (9, .i .i64 n_2)], m := [(0, .lrow 30 [[.rs 32 os, .rs 71 hs, .i .i64 n_3, .i .i64 n_4, .i .i64 n_5, .sl 28 0 m_1]]), (1, .dead), (2, .row 30 [[.rs 32 xs_1, .rs 71 xs_2, .i .i64 n_6, .i .i64 n_7, .i .i64 n_8, .rs 46 xs_3]]), (3, .dead), (4, .dead), (5, .dead), (6, .dead), (7, .dead), (8, .dead), (9, .dead), (10, .dead), (11, .dead), (12, .dead), (13, .dead), (14, .dead), (15, .dead), (16, .dead), (17, .dead), (18, .dead), (19, .dead), (20, .dead), (21, .dead), (22, .dead), (23, .dead), (24, .dead), (25, .dead), (26, .dead), (27, .dead), (28, .row 46 ms)], nx := 29, nt := 67 }
noncomputable def lp23a : Code := loopAt c23 [true, true, true, true, true, true, true, false, true, false]
noncomputable def ex23a (ta : Int) (tb : Int) (n_1 : Int) (n_2 : Int) (os : List (List AV)) (hs : List (List AV)) (n_3 : Int) (n_4 : Int) (n_5 : Int) (m_1 : Nat) (xs_1 : List (List AV)) (xs_2 : List (List AV)) (n_6 : Int) (n_7 : Int) (n_8 : Int) (xs_3 : List (List AV)) (ms : List (List AV)) : Bool := false
noncomputable def df23a (ta : Int) (tb : Int) (n_1 : Int) (n_2 : Int) (os : List (List AV)) (hs : List (List AV)) (n_3 : Int) (n_4 : Int) (n_5 : Int) (m_1 : Nat) (xs_1 : List (List AV)) (xs_2 : List (List AV)) (n_6 : Int) (n_7 : Int) (n_8 : Int) (xs_3 : List (List AV)) (ms : List (List AV)) : Bool := (inb n_2 m_1 && (0 + n_2.toNat).blt ms.length) && (((0 + n_2.toNat).blt ms.length) && ((inb n_2 m_1 && (0 + n_2.toNat).blt ms.length) && ((0 + n_2.toNat).blt ms.length)))
noncomputable def nx23a_0 (ta : Int) (tb : Int) (n_1 : Int) (n_2 : Int) (os : List (List AV)) (hs : List (List AV)) (n_3 : Int) (n_4 : Int) (n_5 : Int) (m_1 : Nat) (xs_1 : List (List AV)) (xs_2 : List (List AV)) (n_6 : Int) (n_7 : Int) (n_8 : Int) (xs_3 : List (List AV)) (ms : List (List AV)) : List (List AV) := ms.set (0 + n_2.toNat) (setCs (ms.getD (0 + n_2.toNat) []) 2 [AV.i IntKind.i64 (bmax 0 (Wr (c2 (ms.getD (0 + n_2.toNat) []) - tb))), AV.i IntKind.i64 (bmax 0 (Wr (c3 (ms.getD (0 + n_2.toNat) []) - ta)))])
noncomputable def a23a (ta : Int) (tb : Int) (n_1 : Int) (os : List (List AV)) (hs : List (List AV)) (n_3 : Int) (n_4 : Int) (n_5 : Int) (m_1 : Nat) (xs_1 : List (List AV)) (xs_2 : List (List AV)) (n_6 : Int) (n_7 : Int) (n_8 : Int) (xs_3 : List (List AV)) (ms : List (List AV)) : Nat → (List (List AV))
  | 0 => ms
  | k + 1 => (nx23a_0 ta tb n_1 ((k : Nat) : Int) os hs n_3 n_4 n_5 m_1 xs_1 xs_2 n_6 n_7 n_8 xs_3 ((a23a ta tb n_1 os hs n_3 n_4 n_5 m_1 xs_1 xs_2 n_6 n_7 n_8 xs_3 ms k)))
noncomputable def e23a (ta : Int) (tb : Int) (n_1 : Int) (os : List (List AV)) (hs : List (List AV)) (n_3 : Int) (n_4 : Int) (n_5 : Int) (m_1 : Nat) (xs_1 : List (List AV)) (xs_2 : List (List AV)) (n_6 : Int) (n_7 : Int) (n_8 : Int) (xs_3 : List (List AV)) (ms : List (List AV)) (k : Nat) : Bool := ex23a ta tb n_1 ((k : Nat) : Int) os hs n_3 n_4 n_5 m_1 xs_1 xs_2 n_6 n_7 n_8 xs_3 (a23a ta tb n_1 os hs n_3 n_4 n_5 m_1 xs_1 xs_2 n_6 n_7 n_8 xs_3 ms k)
noncomputable def d23a (ta : Int) (tb : Int) (n_1 : Int) (os : List (List AV)) (hs : List (List AV)) (n_3 : Int) (n_4 : Int) (n_5 : Int) (m_1 : Nat) (xs_1 : List (List AV)) (xs_2 : List (List AV)) (n_6 : Int) (n_7 : Int) (n_8 : Int) (xs_3 : List (List AV)) (ms : List (List AV)) (k : Nat) : Bool := df23a ta tb n_1 ((k : Nat) : Int) os hs n_3 n_4 n_5 m_1 xs_1 xs_2 n_6 n_7 n_8 xs_3 (a23a ta tb n_1 os hs n_3 n_4 n_5 m_1 xs_1 xs_2 n_6 n_7 n_8 xs_3 ms k)
noncomputable def st23a (ta : Int) (tb : Int) (n_1 : Int) (os : List (List AV)) (hs : List (List AV)) (n_3 : Int) (n_4 : Int) (n_5 : Int) (m_1 : Nat) (xs_1 : List (List AV)) (xs_2 : List (List AV)) (n_6 : Int) (n_7 : Int) (n_8 : Int) (xs_3 : List (List AV)) (ms : List (List AV)) (k : Nat) : St := s23a ta tb n_1 ((k : Nat) : Int) os hs n_3 n_4 n_5 m_1 xs_1 xs_2 n_6 n_7 n_8 xs_3 (a23a ta tb n_1 os hs n_3 n_4 n_5 m_1 xs_1 xs_2 n_6 n_7 n_8 xs_3 ms k)
noncomputable def N23a (ta : Int) (tb : Int) (n_1 : Int) (os : List (List AV)) (hs : List (List AV)) (n_3 : Int) (n_4 : Int) (n_5 : Int) (m_1 : Nat) (xs_1 : List (List AV)) (xs_2 : List (List AV)) (n_6 : Int) (n_7 : Int) (n_8 : Int) (xs_3 : List (List AV)) (ms : List (List AV)) : Nat := ((↑m_1 : Int) : Int).toNat
noncomputable def g23a (ta : Int) (tb : Int) (n_1 : Int) (os : List (List AV)) (hs : List (List AV)) (n_3 : Int) (n_4 : Int) (n_5 : Int) (m_1 : Nat) (xs_1 : List (List AV)) (xs_2 : List (List AV)) (n_6 : Int) (n_7 : Int) (n_8 : Int) (xs_3 : List (List AV)) (ms : List (List AV)) : Bool := decide (((↑m_1 : Int) : Int) ≤ 9223372036854775807) && allN (d23a ta tb n_1 os hs n_3 n_4 n_5 m_1 xs_1 xs_2 n_6 n_7 n_8 xs_3 ms) (N23a ta tb n_1 os hs n_3 n_4 n_5 m_1 xs_1 xs_2 n_6 n_7 n_8 xs_3 ms)
noncomputable def l23a (st : St) : Option (List (Bool × Ex × St)) := match normV Try.prog [3, 4, 6, 7, 9] 29 st with
  | some ([.p 0 0 0, .rp [.int .i64, .int .i64] [.i .i64 ta, .i .i64 tb] 0, .p 2 0 0, .i .i64 n_1, .i .i64 (.ofNat 0)], .lrow 30 [[.rs 32 os, .rs 71 hs, .i .i64 n_3, .i .i64 n_4, .i .i64 n_5, .sl 28 0 m_1]] :: .dead :: .row 30 [[.rs 32 xs_1, .rs 71 xs_2, .i .i64 n_6, .i .i64 n_7, .i .i64 n_8, .rs 46 xs_3]] :: .dead :: .dead :: .dead :: .dead :: .dead :: .dead :: .dead :: .dead :: .dead :: .dead :: .dead :: .dead :: .dead :: .dead :: .dead :: .dead :: .dead :: .dead :: .dead :: .dead :: .dead :: .dead :: .dead :: .dead :: .dead :: .row 46 ms :: [], 67) => some [(g23a ta tb n_1 os hs n_3 n_4 n_5 m_1 xs_1 xs_2 n_6 n_7 n_8 xs_3 ms, .ext 1, st23a ta tb n_1 os hs n_3 n_4 n_5 m_1 xs_1 xs_2 n_6 n_7 n_8 xs_3 ms (N23a ta tb n_1 os hs n_3 n_4 n_5 m_1 xs_1 xs_2 n_6 n_7 n_8 xs_3 ms))]
  | _ => none
noncomputable def L23 : LSpec := fun p st => match p with
  | [false, true, false, true, true, true, true, true, true, true] => l23a st
  | _ => none
noncomputable def tr23a (ta : Int) (tb : Int) (n_1 : Int) (n_2 : Int) (os : List (List AV)) (hs : List (List AV)) (n_3 : Int) (n_4 : Int) (n_5 : Int) (m_1 : Nat) (xs_1 : List (List AV)) (xs_2 : List (List AV)) (n_6 : Int) (n_7 : Int) (n_8 : Int) (xs_3 : List (List AV)) (ms : List (List AV)) : Option (Ex × St) := cond (inb n_2 m_1 && (0 + n_2.toNat).blt ms.length) (cond ((0 + n_2.toNat).blt ms.length) (cond (inb n_2 m_1 && (0 + n_2.toNat).blt ms.length) (cond ((0 + n_2.toNat).blt ms.length) (some (.nrm, s23a ta tb n_1 (IntKind.i64.wrap (n_2 + 1)) os hs n_3 n_4 n_5 m_1 xs_1 xs_2 n_6 n_7 n_8 xs_3 (ms.set (0 + n_2.toNat) (setCs (ms.getD (0 + n_2.toNat) []) 2 [AV.i IntKind.i64 (bmax 0 (Wr (c2 (ms.getD (0 + n_2.toNat) []) - tb))), AV.i IntKind.i64 (bmax 0 (Wr (c3 (ms.getD (0 + n_2.toNat) []) - ta)))])))) (none)) (none)) (none)) (none)
theorem round23a (ta : Int) (tb : Int) (n_1 : Int) (n_2 : Int) (os : List (List AV)) (hs : List (List AV)) (n_3 : Int) (n_4 : Int) (n_5 : Int) (m_1 : Nat) (xs_1 : List (List AV)) (xs_2 : List (List AV)) (n_6 : Int) (n_7 : Int) (n_8 : Int) (xs_3 : List (List AV)) (ms : List (List AV)) : round Try.prog Sp (ro 23) L23 lp23a [false, true, false, true, true, true, true, true, true, true] [3, 4, 6, 7, 9] 29 (s23a ta tb n_1 n_2 os hs n_3 n_4 n_5 m_1 xs_1 xs_2 n_6 n_7 n_8 xs_3 ms) =
    cond (decide (n_2 < (↑m_1 : Int))) (tr23a ta tb n_1 n_2 os hs n_3 n_4 n_5 m_1 xs_1 xs_2 n_6 n_7 n_8 xs_3 ms) (some (.ext 1, s23a ta tb n_1 n_2 os hs n_3 n_4 n_5 m_1 xs_1 xs_2 n_6 n_7 n_8 xs_3 ms)) := by kernel_rfl
theorem step23a (ta : Int) (tb : Int) (n_1 : Int) (n_2 : Int) (os : List (List AV)) (hs : List (List AV)) (n_3 : Int) (n_4 : Int) (n_5 : Int) (m_1 : Nat) (xs_1 : List (List AV)) (xs_2 : List (List AV)) (n_6 : Int) (n_7 : Int) (n_8 : Int) (xs_3 : List (List AV)) (ms : List (List AV)) (hd : df23a ta tb n_1 n_2 os hs n_3 n_4 n_5 m_1 xs_1 xs_2 n_6 n_7 n_8 xs_3 ms = true) : tr23a ta tb n_1 n_2 os hs n_3 n_4 n_5 m_1 xs_1 xs_2 n_6 n_7 n_8 xs_3 ms = cond (ex23a ta tb n_1 n_2 os hs n_3 n_4 n_5 m_1 xs_1 xs_2 n_6 n_7 n_8 xs_3 ms) (some ((.ret, s23a ta tb n_1 n_2 os hs n_3 n_4 n_5 m_1 xs_1 xs_2 n_6 n_7 n_8 xs_3 ms))) (some (.nrm, s23a ta tb n_1 (IntKind.i64.wrap (n_2 + 1)) os hs n_3 n_4 n_5 m_1 xs_1 xs_2 n_6 n_7 n_8 xs_3 (nx23a_0 ta tb n_1 n_2 os hs n_3 n_4 n_5 m_1 xs_1 xs_2 n_6 n_7 n_8 xs_3 ms))) := by
  unfold df23a at hd
  unfold ex23a nx23a_0 tr23a
  generalize (inb n_2 m_1 && (0 + n_2.toNat).blt ms.length) = t0 at *
  generalize ((0 + n_2.toNat).blt ms.length) = t1 at *
  cases t0 <;> cases t1 <;> first | rfl | (cases hd)
theorem lok23a {st : St} {outs : List (Bool × Ex × St)} {e : Ex} {s : St} {lo : Nat} (hlo : lo ≤ st.nx) (hl : l23a st = some outs) (hch : Chosen outs e s) (hz : lo = 0) :
    ∃ keep nb, lo ≤ nb ∧ LB Try.prog Sp (ro 23) L23 lp23a [false, true, false, true, true, true, true, true, true, true] keep nb st e s := by
  unfold l23a at hl
  split at hl
  · rename_i ta tb n_1 os hs n_3 n_4 n_5 m_1 xs_1 xs_2 n_6 n_7 n_8 xs_3 ms hno
    cases hl
    have hno := normV_norm hno
    refine LB_forN (n := (N23a ta tb n_1 os hs n_3 n_4 n_5 m_1 xs_1 xs_2 n_6 n_7 n_8 xs_3 ms)) (g := g23a ta tb n_1 os hs n_3 n_4 n_5 m_1 xs_1 xs_2 n_6 n_7 n_8 xs_3 ms) (stI := fun k => st23a ta tb n_1 os hs n_3 n_4 n_5 m_1 xs_1 xs_2 n_6 n_7 n_8 xs_3 ms k) (fin := (.ext 1, st23a ta tb n_1 os hs n_3 n_4 n_5 m_1 xs_1 xs_2 n_6 n_7 n_8 xs_3 ms (N23a ta tb n_1 os hs n_3 n_4 n_5 m_1 xs_1 xs_2 n_6 n_7 n_8 xs_3 ms))) hno (Nat.le_trans (Nat.le_of_eq hz) (Nat.zero_le _)) hch (by simp) (fun hg => ?_)
    obtain ⟨hb, hall⟩ := Bool.and_eq_true_iff.1 hg
    have hb := of_decide_eq_true hb
    refine ⟨fun k hk => ?_, ?_⟩
    · have h1 := lt_toNat hk
      have hd := allN_at hall k hk
      have hw := wrap_succ h1 hb
      show round _ _ _ _ _ _ _ _ (s23a ta tb n_1 ((k : Nat) : Int) os hs n_3 n_4 n_5 m_1 xs_1 xs_2 n_6 n_7 n_8 xs_3 (a23a ta tb n_1 os hs n_3 n_4 n_5 m_1 xs_1 xs_2 n_6 n_7 n_8 xs_3 ms k)) = _
      rw [round23a, show decide _ = true from decide_eq_true h1, cond_true, step23a _ _ _ _ _ _ _ _ _ _ _ _ _ _ _ _ _ hd, hw]
      show cond (e23a ta tb n_1 os hs n_3 n_4 n_5 m_1 xs_1 xs_2 n_6 n_7 n_8 xs_3 ms k) _ _ = _
      rw [show e23a ta tb n_1 os hs n_3 n_4 n_5 m_1 xs_1 xs_2 n_6 n_7 n_8 xs_3 ms k = false from rfl]
      rfl
    · show round _ _ _ _ _ _ _ _ (s23a ta tb n_1 (((N23a ta tb n_1 os hs n_3 n_4 n_5 m_1 xs_1 xs_2 n_6 n_7 n_8 xs_3 ms) : Nat) : Int) os hs n_3 n_4 n_5 m_1 xs_1 xs_2 n_6 n_7 n_8 xs_3 (a23a ta tb n_1 os hs n_3 n_4 n_5 m_1 xs_1 xs_2 n_6 n_7 n_8 xs_3 ms ((N23a ta tb n_1 os hs n_3 n_4 n_5 m_1 xs_1 xs_2 n_6 n_7 n_8 xs_3 ms)))) = _
      rw [round23a, show decide ((((N23a ta tb n_1 os hs n_3 n_4 n_5 m_1 xs_1 xs_2 n_6 n_7 n_8 xs_3 ms) : Nat) : Int) < ((↑m_1 : Int) : Int)) = false from not_lt_toNat]
      rfl
  · cases hl
theorem L23_ok (q : Pl) (c : Code) (hq : locate c23 q.reverse = some (.loop c)) (st : St) (outs : List (Bool × Ex × St)) (e : Ex) (s : St) (hl : L23 q st = some outs) (hch : Chosen outs e s) :
    ∃ keep nb, LB Try.prog Sp (ro 23) L23 c q keep nb st e s := by
  unfold L23 at hl
  split at hl
  · have : locate c23 ([false, true, false, true, true, true, true, true, true, true] : Pl).reverse = some (.loop lp23a) := by kernel_rfl
    rw [this] at hq
    cases hq
    obtain ⟨keep, nb, _, h⟩ := lok23a (lo := 0) (Nat.zero_le _) hl hch rfl
    exact ⟨keep, nb, h⟩
  · cases hl
theorem eq23 (os hs ms : List (List AV)) (sp tl th : Int) (ta tb gain : Int) : evF Try.prog Sp (ro 23) L23 Try.f23 [.agg [.rs 32 os, .rs 71 hs, .i .i64 sp, .i .i64 tl, .i .i64 th, .rs 46 ms], .agg [.i .i64 ta, .i .i64 tb], .i .i64 gain] =
    cond (checkR os hs ms sp tl th != 0) (cond (checkR os hs ms sp tl th != 0) (some (.tup [.agg [.rs 32 ([]), .rs 71 ([]), .i .i64 0, .i .i64 0, .i .i64 0, .rs 46 ([])], .i .i64 (checkR os hs ms sp tl th)])) (cond (smA os hs ms) (none) (none))) (cond (!spB ta tb 2000) (some (.tup [.agg [.rs 32 ([]), .rs 71 ([]), .i .i64 0, .i .i64 0, .i .i64 0, .rs 46 ([])], .i .i64 1])) (cond (!inB gain 0 1000) (some (.tup [.agg [.rs 32 ([]), .rs 71 ([]), .i .i64 0, .i .i64 0, .i .i64 0, .rs 46 ([])], .i .i64 1])) (cond (decide (IntKind.i64.wrap (sp + gain) > 1000)) (some (.tup [.agg [.rs 32 ([]), .rs 71 ([]), .i .i64 0, .i .i64 0, .i .i64 0, .rs 46 ([])], .i .i64 3])) (cond (checkR os hs ms sp tl th != 0) (some (.tup [.agg [.rs 32 ([]), .rs 71 ([]), .i .i64 0, .i .i64 0, .i .i64 0, .rs 46 ([])], .i .i64 (checkR os hs ms sp tl th)])) (cond (smA os hs ms) (cond (g23a ta tb 0 os hs (IntKind.i64.wrap (sp + gain)) (bmax 0 (Wr (tl - tb))) (bmax 0 (Wr (th - ta))) ms.length [] [] 0 0 0 [] ms) (cond ((0 + ms.length).ble (a23a ta tb 0 os hs (IntKind.i64.wrap (sp + gain)) (bmax 0 (Wr (tl - tb))) (bmax 0 (Wr (th - ta))) ms.length [] [] 0 0 0 [] ms (N23a ta tb 0 os hs (IntKind.i64.wrap (sp + gain)) (bmax 0 (Wr (tl - tb))) (bmax 0 (Wr (th - ta))) ms.length [] [] 0 0 0 [] ms)).length) (some (.tup [.agg [.rs 32 os, .rs 71 hs, .i .i64 (IntKind.i64.wrap (sp + gain)), .i .i64 (bmax 0 (Wr (tl - tb))), .i .i64 (bmax 0 (Wr (th - ta))), .rs 46 (bif ms.length.beq (a23a ta tb 0 os hs (IntKind.i64.wrap (sp + gain)) (bmax 0 (Wr (tl - tb))) (bmax 0 (Wr (th - ta))) ms.length [] [] 0 0 0 [] ms (N23a ta tb 0 os hs (IntKind.i64.wrap (sp + gain)) (bmax 0 (Wr (tl - tb))) (bmax 0 (Wr (th - ta))) ms.length [] [] 0 0 0 [] ms)).length then a23a ta tb 0 os hs (IntKind.i64.wrap (sp + gain)) (bmax 0 (Wr (tl - tb))) (bmax 0 (Wr (th - ta))) ms.length [] [] 0 0 0 [] ms (N23a ta tb 0 os hs (IntKind.i64.wrap (sp + gain)) (bmax 0 (Wr (tl - tb))) (bmax 0 (Wr (th - ta))) ms.length [] [] 0 0 0 [] ms) else List.take ms.length (List.drop 0 (a23a ta tb 0 os hs (IntKind.i64.wrap (sp + gain)) (bmax 0 (Wr (tl - tb))) (bmax 0 (Wr (th - ta))) ms.length [] [] 0 0 0 [] ms (N23a ta tb 0 os hs (IntKind.i64.wrap (sp + gain)) (bmax 0 (Wr (tl - tb))) (bmax 0 (Wr (th - ta))) ms.length [] [] 0 0 0 [] ms))))], .i .i64 0])) (none)) (none)) (none)))))) := by kernel_rfl
end Go.Proofs.Yteclfchlejocmaa

set_option maxRecDepth 100000
set_option linter.unusedVariables false
namespace Go.Proofs.Yteclfchlejocmaa
open Go Go.Ev

/-- A list that is turned one by one. -/
theorem upd_eq {f : List AV → List AV} {ms : List (List AV)} {a : Nat → List (List AV)} (h0 : a 0 = ms) (hs : ∀ k, k < ms.length → a (k + 1) = (a k).set k (f ((a k).getD k []))) (k : Nat) (hk : k ≤ ms.length) :
    a k = (ms.take k).map f ++ ms.drop k := by
  induction k with
  | zero => simp [h0]
  | succ k ih =>
    have hlt : k < ms.length := by omega
    have hl : ((ms.take k).map f).length = k := by simp; omega
    rw [hs k hlt, ih (by omega)]
    have e1 : ((ms.take k).map f ++ ms.drop k).getD k [] = ms[k] := by
      rw [List.getD_eq_getElem?_getD, List.getElem?_append_right (by omega), hl, Nat.sub_self]
      simp [hlt]
    rw [e1, List.set_append_right _ _ (by omega), hl, Nat.sub_self, List.drop_eq_getElem_cons hlt, List.set_cons_zero, List.take_add_one, List.map_append, List.append_assoc]
    simp [List.getElem?_eq_getElem hlt]
theorem upd_all {f : List AV → List AV} {ms : List (List AV)} {a : Nat → List (List AV)} (h0 : a 0 = ms) (hs : ∀ k, k < ms.length → a (k + 1) = (a k).set k (f ((a k).getD k []))) : a ms.length = ms.map f := by
  rw [upd_eq h0 hs _ (Nat.le_refl _)]
  simp
theorem upd_len {f : List AV → List AV} {ms : List (List AV)} {a : Nat → List (List AV)} (h0 : a 0 = ms) (hs : ∀ k, k < ms.length → a (k + 1) = (a k).set k (f ((a k).getD k []))) (k : Nat) (hk : k ≤ ms.length) : (a k).length = ms.length := by
  rw [upd_eq h0 hs k hk]
  simp; omega
theorem bmax_comm0 (x : Int) : bmax 0 x = bmax x 0 := by
  unfold bmax
  split <;> split <;> omega

/-- A mark behind a season. -/
def aft (ta tb : Int) (e : List AV) : List AV := setCs e 2 [.i .i64 (bmax (Wr (c2 e - tb)) 0), .i .i64 (bmax (Wr (c3 e - ta)) 0)]
theorem aft_alt (ta tb : Int) (e : List AV) : aft ta tb e = setCs e 2 [.i .i64 (bmax 0 (Wr (c2 e - tb))), .i .i64 (bmax 0 (Wr (c3 e - ta)))] := by
  unfold aft
  rw [bmax_comm0, bmax_comm0]
def pickL (e : Int) (l : List (List AV)) : List (List AV) := cond (e == 0) l []
def sErr (c sp ta tb gain : Int) : Int := cond (c != 0) c (cond (!spB ta tb 2000) 1 (cond (!inB gain 0 1000) 1 (cond (decide (Wr (sp + gain) > 1000)) 3 0)))
def seasonT (e : Int) (os hs ms : List (List AV)) (sp tl th ta tb gain : Int) : AV :=
  .tup [.agg [.rs 32 (pickL e os), .rs 71 (pickL e hs), .i .i64 (pickZ e (Wr (sp + gain))), .i .i64 (pickZ e (bmax (Wr (tl - tb)) 0)), .i .i64 (pickZ e (bmax (Wr (th - ta)) 0)), .rs 46 (pickL e (ms.map (aft ta tb)))], .i .i64 e]
theorem seasonT_err {e : Int} (h : e ≠ 0) (os hs ms : List (List AV)) (sp tl th ta tb gain : Int) : seasonT e os hs ms sp tl th ta tb gain = .tup [.agg [.rs 32 [], .rs 71 [], .i .i64 0, .i .i64 0, .i .i64 0, .rs 46 []], .i .i64 e] := by
  have h0 : (e == 0) = false := by simpa using h
  unfold seasonT pickL pickZ
  rw [h0]
  rfl
theorem blt_true {a b : Nat} (h : a < b) : Nat.blt a b = true := by simpa [Nat.blt_eq] using h
theorem ble_true {a b : Nat} (h : a ≤ b) : Nat.ble a b = true := by simpa [Nat.ble_eq] using h

theorem con22 (os hs ms : List (List AV)) (sp tl th ta tb gain : Int) (ho : okS os = true) (hs' : smA os hs ms = true) : Con Try.prog 22 [.agg [.rs 32 os, .rs 71 hs, .i .i64 sp, .i .i64 tl, .i .i64 th, .rs 46 ms], .agg [.i .i64 ta, .i .i64 tb], .i .i64 gain]
    (seasonT (sErr (checkW os hs ms sp tl th) sp ta tb gain) os hs ms sp tl th ta tb gain) := by
  refine con_of Sp_ok mixed Try.func22 (c := c22) rfl (names 22 _ Try.func22) (lok_of L22_ok c22 [] false (locate_nil _) (by kernel_rfl)) ?_
  rw [eq22, ho, hs']
  have hml : ms.length ≤ 1000000000 := Nat.le_of_ble_eq_true (smA_parts hs').2.2
  unfold sErr
  cases h1 : checkW os hs ms sp tl th != 0
  · cases h2 : !spB ta tb 2000
    · cases h3 : !inB gain 0 1000
      · cases h4 : decide (Wr (sp + gain) > 1000)
        · obtain ⟨a, ha⟩ : ∃ a, a = a22a ta tb 0 (ms.length : Nat) os hs (IntKind.i64.wrap (sp + gain)) (bmax (Wr (tl - tb)) 0) (bmax (Wr (th - ta)) 0) ms.length [] [] 0 0 0 [] ms := ⟨_, rfl⟩
          have q0 : a 0 = ms := by rw [ha]; rfl
          have qs : ∀ k, k < ms.length → a (k + 1) = (a k).set k (aft ta tb ((a k).getD k [])) := fun k hk => by
            rw [ha]
            show ((a22a _ _ _ _ _ _ _ _ _ _ _ _ _ _ _ _ _ k).set (0 + ((k : Nat) : Int).toNat) _) = _
            rw [Int.toNat_natCast, Nat.zero_add]
            rfl
          have hN : N22a ta tb 0 (ms.length : Nat) os hs (IntKind.i64.wrap (sp + gain)) (bmax (Wr (tl - tb)) 0) (bmax (Wr (th - ta)) 0) ms.length [] [] 0 0 0 [] ms = ms.length := rfl
          have hg : g22a ta tb 0 (ms.length : Nat) os hs (IntKind.i64.wrap (sp + gain)) (bmax (Wr (tl - tb)) 0) (bmax (Wr (th - ta)) 0) ms.length [] [] 0 0 0 [] ms = true := by
            unfold g22a
            rw [Bool.and_eq_true]
            refine ⟨le64 (by omega), allN_of fun i hi => ?_⟩
            have hi : i < ms.length := hi
            have hl : (a i).length = ms.length := upd_len q0 qs i (by omega)
            rw [ha] at hl
            unfold d22a df22a
            rw [hl, inb_nat hi, Int.toNat_natCast, Nat.zero_add, blt_true hi]
            rfl
          rw [hg, hN, ← ha, upd_all q0 qs, List.length_map, Nat.zero_add, ble_true (Nat.le_refl _), Nat.beq_refl]
          rfl
        · rfl
      · rfl
    · rfl
  · have h1' : checkW os hs ms sp tl th ≠ 0 := by simpa using h1
    simp only [cond_true]
    rw [seasonT_err h1']
theorem con23 (os hs ms : List (List AV)) (sp tl th ta tb gain : Int) (hs' : smA os hs ms = true) : Con Try.prog 23 [.agg [.rs 32 os, .rs 71 hs, .i .i64 sp, .i .i64 tl, .i .i64 th, .rs 46 ms], .agg [.i .i64 ta, .i .i64 tb], .i .i64 gain]
    (seasonT (sErr (checkR os hs ms sp tl th) sp ta tb gain) os hs ms sp tl th ta tb gain) := by
  refine con_of Sp_ok mixed Try.func23 (c := c23) rfl (names 23 _ Try.func23) (lok_of L23_ok c23 [] false (locate_nil _) (by kernel_rfl)) ?_
  rw [eq23, hs']
  have hml : ms.length ≤ 1000000000 := Nat.le_of_ble_eq_true (smA_parts hs').2.2
  unfold sErr
  cases h1 : checkR os hs ms sp tl th != 0
  · cases h2 : !spB ta tb 2000
    · cases h3 : !inB gain 0 1000
      · cases h4 : decide (Wr (sp + gain) > 1000)
        · obtain ⟨a, ha⟩ : ∃ a, a = a23a ta tb 0 os hs (IntKind.i64.wrap (sp + gain)) (bmax 0 (Wr (tl - tb))) (bmax 0 (Wr (th - ta))) ms.length [] [] 0 0 0 [] ms := ⟨_, rfl⟩
          have q0 : a 0 = ms := by rw [ha]; rfl
          have qs : ∀ k, k < ms.length → a (k + 1) = (a k).set k (aft ta tb ((a k).getD k [])) := fun k hk => by
            rw [ha]
            show ((a23a _ _ _ _ _ _ _ _ _ _ _ _ _ _ _ _ k).set (0 + ((k : Nat) : Int).toNat) (setCs ((a23a _ _ _ _ _ _ _ _ _ _ _ _ _ _ _ _ k).getD (0 + ((k : Nat) : Int).toNat) []) 2
              [.i .i64 (bmax 0 (Wr (c2 ((a23a _ _ _ _ _ _ _ _ _ _ _ _ _ _ _ _ k).getD (0 + ((k : Nat) : Int).toNat) []) - tb))), .i .i64 (bmax 0 (Wr (c3 ((a23a _ _ _ _ _ _ _ _ _ _ _ _ _ _ _ _ k).getD (0 + ((k : Nat) : Int).toNat) []) - ta)))])) = _
            rw [Int.toNat_natCast, Nat.zero_add, aft_alt]
          have hN : N23a ta tb 0 os hs (IntKind.i64.wrap (sp + gain)) (bmax 0 (Wr (tl - tb))) (bmax 0 (Wr (th - ta))) ms.length [] [] 0 0 0 [] ms = ms.length := rfl
          have hg : g23a ta tb 0 os hs (IntKind.i64.wrap (sp + gain)) (bmax 0 (Wr (tl - tb))) (bmax 0 (Wr (th - ta))) ms.length [] [] 0 0 0 [] ms = true := by
            unfold g23a
            rw [Bool.and_eq_true]
            refine ⟨le64 (by omega), allN_of fun i hi => ?_⟩
            have hi : i < ms.length := hi
            have hl : (a i).length = ms.length := upd_len q0 qs i (by omega)
            rw [ha] at hl
            unfold d23a df23a
            rw [hl, inb_nat hi, Int.toNat_natCast, Nat.zero_add, blt_true hi]
            rfl
          rw [hg, hN, ← ha, upd_all q0 qs, List.length_map, Nat.zero_add, ble_true (Nat.le_refl _), Nat.beq_refl, bmax_comm0, bmax_comm0]
          rfl
        · rfl
      · rfl
    · rfl
  · have h1' : checkR os hs ms sp tl th ≠ 0 := by simpa using h1
    simp only [cond_true]
    rw [seasonT_err h1']
end Go.Proofs.Yteclfchlejocmaa

set_option maxRecDepth 100000
set_option linter.unusedVariables false
namespace Go.Proofs.Yteclfchlejocmaa
open Go Go.Ev

/-! ### Same -/
def neP (a b : List (List AV)) (i : Nat) : Bool := !(cU (a.getD i []) == cU (b.getD i []) && cV (a.getD i []) == cV (b.getD i []))
def neQ (a b : List (List AV)) (i : Nat) : Bool := !(cU (a.getD i []) == cU (b.getD i []) && cV (a.getD i []) == cV (b.getD i []) && (c2 (a.getD i []) == c2 (b.getD i []) && c3 (a.getD i []) == c3 (b.getD i [])))
def sameB (os hs ms os' hs' ms' : List (List AV)) (sp tl th sp' tl' th' : Int) : Bool :=
  cond (sp != sp') false (cond (!(tl == tl' && th == th')) false (cond (((ms.length : Nat) : Int) != (ms'.length : Nat)) false (cond (((os.length : Nat) : Int) != (os'.length : Nat)) false (cond (((hs.length : Nat) : Int) != (hs'.length : Nat)) false
    (cond (anyN (neQ ms ms') ms.length) false (cond (anyN (neP os os') os.length) false (!anyN (neQ hs hs') hs.length)))))))
theorem ne_len {a b : Nat} (h : (((a : Nat) : Int) != (b : Nat)) = false) : b = a := by
  have : ((a : Nat) : Int) = (b : Nat) := by simpa using h
  omega
theorem con24 (os hs ms os' hs' ms' : List (List AV)) (sp tl th sp' tl' th' : Int) (h : okA os hs ms = true) : Con Try.prog 24 [.agg [.rs 32 os, .rs 71 hs, .i .i64 sp, .i .i64 tl, .i .i64 th, .rs 46 ms], .agg [.rs 32 os', .rs 71 hs', .i .i64 sp', .i .i64 tl', .i .i64 th', .rs 46 ms']]
    (.b (sameB os hs ms os' hs' ms' sp tl th sp' tl' th')) := by
  refine con_of Sn_ok mixed Try.func24 (c := c24) rfl (names 24 _ Try.func24) (lok_of L24_ok c24 [] false (locate_nil _) (by kernel_rfl)) ?_
  obtain ⟨_, q1, q2, q3⟩ := okA_parts h
  have q1 := Nat.le_of_ble_eq_true q1
  have q2 := Nat.le_of_ble_eq_true q2
  have q3 := Nat.le_of_ble_eq_true q3
  rw [eq24]
  unfold sameB
  cases h1 : sp != sp'
  · cases h2 : !(tl == tl' && th == th')
    · cases h3 : ((ms.length : Nat) : Int) != (ms'.length : Nat)
      · cases h4 : ((os.length : Nat) : Int) != (os'.length : Nat)
        · cases h5 : ((hs.length : Nat) : Int) != (hs'.length : Nat)
          · have e3 := ne_len h3
            have e4 := ne_len h4
            have e5 := ne_len h5
            have Na : N24a os hs sp tl th ms os' hs' sp' tl' th' ms' false = ms.length := rfl
            have Nb : N24b os hs sp tl th ms os' hs' sp' tl' th' ms' false = os.length := rfl
            have Nc : N24c os hs sp tl th ms os' hs' sp' tl' th' ms' false = hs.length := rfl
            have ga : g24a os hs sp tl th ms os' hs' sp' tl' th' ms' false = true := by
              unfold g24a
              rw [Bool.and_eq_true]
              refine ⟨le64 q3, allN_of fun i hi => ?_⟩
              have hi : i < ms.length := hi
              unfold d24a df24a
              rw [inb_nat hi, inb_nat (show i < ms'.length by omega)]
              rfl
            have gb : g24b os hs sp tl th ms os' hs' sp' tl' th' ms' false = true := by
              unfold g24b
              rw [Bool.and_eq_true]
              refine ⟨le64 q1, allN_of fun i hi => ?_⟩
              have hi : i < os.length := hi
              unfold d24b df24b
              rw [inb_nat hi, inb_nat (show i < os'.length by omega)]
              rfl
            have gc : g24c os hs sp tl th ms os' hs' sp' tl' th' ms' false = true := by
              unfold g24c
              rw [Bool.and_eq_true]
              refine ⟨le64 q2, allN_of fun i hi => ?_⟩
              have hi : i < hs.length := hi
              unfold d24c df24c
              rw [inb_nat hi, inb_nat (show i < hs'.length by omega)]
              rfl
            have ea : anyN (e24a os hs sp tl th ms os' hs' sp' tl' th' ms' false) ms.length = anyN (neQ ms ms') ms.length := anyN_congr fun i hi => rfl
            have eb : anyN (e24b os hs sp tl th ms os' hs' sp' tl' th' ms' false) os.length = anyN (neP os os') os.length := anyN_congr fun i hi => rfl
            have ec : anyN (e24c os hs sp tl th ms os' hs' sp' tl' th' ms' false) hs.length = anyN (neQ hs hs') hs.length := anyN_congr fun i hi => rfl
            rw [ga, gb, gc, Na, Nb, Nc, ea, eb, ec]
            cases anyN (neQ ms ms') ms.length <;> cases anyN (neP os os') os.length <;> cases anyN (neQ hs hs') hs.length <;> rfl
          · rfl
        · rfl
      · rfl
    · rfl
  · rfl
theorem neP_self (a : List (List AV)) (n : Nat) : anyN (neP a a) n = false := by
  rw [← anyN_const_false n]
  exact anyN_congr fun i _ => by simp [neP]
theorem neQ_self (a : List (List AV)) (n : Nat) : anyN (neQ a a) n = false := by
  rw [← anyN_const_false n]
  exact anyN_congr fun i _ => by simp [neQ]
theorem same_self (os hs ms : List (List AV)) (sp tl th : Int) : sameB os hs ms os hs ms sp tl th sp tl th = true := by
  unfold sameB
  rw [neP_self, neQ_self, neQ_self]
  simp

noncomputable def Sq : Ev.Spec := fun f args => match f, args with
  | 22, [.agg [.rs 32 os, .rs 71 hs, .i .i64 sp, .i .i64 tl, .i .i64 th, .rs 46 ms], .agg [.i .i64 ta, .i .i64 tb], .i .i64 gain] =>
    some (okS os && smA os hs ms, .tup [.agg [.rs 32 (pickL (sErr (checkW os hs ms sp tl th) sp ta tb gain) os), .rs 71 (pickL (sErr (checkW os hs ms sp tl th) sp ta tb gain) hs), .i .i64 (pickZ (sErr (checkW os hs ms sp tl th) sp ta tb gain) (Wr (sp + gain))),
      .i .i64 (pickZ (sErr (checkW os hs ms sp tl th) sp ta tb gain) (bmax (Wr (tl - tb)) 0)), .i .i64 (pickZ (sErr (checkW os hs ms sp tl th) sp ta tb gain) (bmax (Wr (th - ta)) 0)), .rs 46 (pickL (sErr (checkW os hs ms sp tl th) sp ta tb gain) (ms.map (aft ta tb)))],
      .i .i64 (sErr (checkW os hs ms sp tl th) sp ta tb gain)])
  | 23, [.agg [.rs 32 os, .rs 71 hs, .i .i64 sp, .i .i64 tl, .i .i64 th, .rs 46 ms], .agg [.i .i64 ta, .i .i64 tb], .i .i64 gain] =>
    some (smA os hs ms, .tup [.agg [.rs 32 (pickL (sErr (checkR os hs ms sp tl th) sp ta tb gain) os), .rs 71 (pickL (sErr (checkR os hs ms sp tl th) sp ta tb gain) hs), .i .i64 (pickZ (sErr (checkR os hs ms sp tl th) sp ta tb gain) (Wr (sp + gain))),
      .i .i64 (pickZ (sErr (checkR os hs ms sp tl th) sp ta tb gain) (bmax (Wr (tl - tb)) 0)), .i .i64 (pickZ (sErr (checkR os hs ms sp tl th) sp ta tb gain) (bmax (Wr (th - ta)) 0)), .rs 46 (pickL (sErr (checkR os hs ms sp tl th) sp ta tb gain) (ms.map (aft ta tb)))],
      .i .i64 (sErr (checkR os hs ms sp tl th) sp ta tb gain)])
  | 24, [.agg [.rs 32 os, .rs 71 hs, .i .i64 sp, .i .i64 tl, .i .i64 th, .rs 46 ms], .agg [.rs 32 os', .rs 71 hs', .i .i64 sp', .i .i64 tl', .i .i64 th', .rs 46 ms']] =>
    some (okA os hs ms, .b (sameB os hs ms os' hs' ms' sp tl th sp' tl' th'))
  | f, args => Sp f args
theorem Sq_ok : SpecOK Try.prog Sq := by
  intro f args pre v h hp
  unfold Sq at h
  split at h
  · cases h
    obtain ⟨h1, h2⟩ := Bool.and_eq_true_iff.1 hp
    exact con22 _ _ _ _ _ _ _ _ _ h1 h2
  · cases h; exact con23 _ _ _ _ _ _ _ _ _ hp
  · cases h; exact con24 _ _ _ _ _ _ _ _ _ _ _ _ hp
  · exact Sp_ok _ _ _ _ h hp
end Go.Proofs.Yteclfchlejocmaa

set_option maxRecDepth 100000
set_option linter.unusedVariables false
namespace Go.Proofs.Yteclfchlejocmaa
open Go Go.Ev

theorem eq7 (os hs ms : List (List AV)) (sp tl th : Int) (ta tb gain : Int) : evF Try.prog Sq (ro 7) (fun _ _ => none) Try.f7 [.agg [.rs 32 os, .rs 71 hs, .i .i64 sp, .i .i64 tl, .i .i64 th, .rs 46 ms], .agg [.i .i64 ta, .i .i64 tb], .i .i64 gain] =
    cond (greatB os hs ms) (some (.b true)) (cond (okS os && smA os hs ms) (cond (smA os hs ms) (cond (okA (pickL (sErr (checkW os hs ms sp tl th) sp ta tb gain) os) (pickL (sErr (checkW os hs ms sp tl th) sp ta tb gain) hs) (pickL (sErr (checkW os hs ms sp tl th) sp ta tb gain) (List.map (aft ta tb) ms))) (cond (sameB (pickL (sErr (checkW os hs ms sp tl th) sp ta tb gain) os) (pickL (sErr (checkW os hs ms sp tl th) sp ta tb gain) hs) (pickL (sErr (checkW os hs ms sp tl th) sp ta tb gain) (List.map (aft ta tb) ms)) (pickL (sErr (checkR os hs ms sp tl th) sp ta tb gain) os) (pickL (sErr (checkR os hs ms sp tl th) sp ta tb gain) hs) (pickL (sErr (checkR os hs ms sp tl th) sp ta tb gain) (List.map (aft ta tb) ms)) (pickZ (sErr (checkW os hs ms sp tl th) sp ta tb gain) (Wr (sp + gain))) (pickZ (sErr (checkW os hs ms sp tl th) sp ta tb gain) (bmax (Wr (tl - tb)) 0)) (pickZ (sErr (checkW os hs ms sp tl th) sp ta tb gain) (bmax (Wr (th - ta)) 0)) (pickZ (sErr (checkR os hs ms sp tl th) sp ta tb gain) (Wr (sp + gain))) (pickZ (sErr (checkR os hs ms sp tl th) sp ta tb gain) (bmax (Wr (tl - tb)) 0)) (pickZ (sErr (checkR os hs ms sp tl th) sp ta tb gain) (bmax (Wr (th - ta)) 0))) (cond (sErr (checkW os hs ms sp tl th) sp ta tb gain == sErr (checkR os hs ms sp tl th) sp ta tb gain) (some (.b true)) (some (.b false))) (some (.b false))) (none)) (none)) (none)) := by kernel_rfl
theorem span_of {a : AV} (h : TyArg Try.prog 27 a) : ∃ u v, a = .agg [.i .i64 u, .i .i64 v] ∧ (IntKind.i64.min ≤ u ∧ u ≤ IntKind.i64.max) ∧ IntKind.i64.min ≤ v ∧ v ≤ IntKind.i64.max := by
  obtain ⟨bs, rfl, hw⟩ := ty_agg (c := [.int .i64, .int .i64]) (by kernel_rfl) (by kernel_rfl) h
  obtain ⟨b0, q0, rfl, w0, hw⟩ := WTs_cons hw
  obtain ⟨b1, q1, rfl, w1, hw⟩ := WTs_cons hw
  obtain rfl := WTs_nil hw
  obtain ⟨u, rfl, r1⟩ := WT_int w0
  obtain ⟨v, rfl, r2⟩ := WT_int w1
  exact ⟨u, v, rfl, r1, r2⟩
theorem great_len {os hs ms : List (List AV)} (h : greatB os hs ms = false) : os.length ≤ 30 ∧ hs.length ≤ 30 ∧ ms.length ≤ 60 := by
  unfold greatB at h
  simp only [Bool.or_eq_false_iff, decide_eq_false_iff_not] at h
  omega
theorem smA_of {os hs ms : List (List AV)} (h : os.length ≤ 30 ∧ hs.length ≤ 30 ∧ ms.length ≤ 60) : smA os hs ms = true := by
  unfold smA
  rw [ble_true (by omega), ble_true (by omega), ble_true (by omega)]
  rfl
theorem okA_of {os hs ms : List (List AV)} (h1 : okS os = true) (h : os.length ≤ 30 ∧ hs.length ≤ 30 ∧ ms.length ≤ 60) : okA os hs ms = true := by
  unfold okA
  rw [h1, ble_true (by omega), ble_true (by omega)]
  rfl
theorem pick_ok {e : Int} {os hs ms : List (List AV)} (h1 : okS os = true) (h : os.length ≤ 30 ∧ hs.length ≤ 30 ∧ ms.length ≤ 60) : okS (pickL e os) = true ∧ (pickL e os).length ≤ 30 ∧ (pickL e hs).length ≤ 30 ∧ (pickL e ms).length ≤ 60 := by
  unfold pickL
  cases e == 0
  · exact ⟨rfl, by simp, by simp, by simp⟩
  · exact ⟨h1, h⟩
theorem seasons_law (avs : List AV) (h : TyArgs Try.prog Try.f7.params.toList avs) : Con Try.prog 7 avs (.b true) := by
  obtain ⟨a0, r0, rfl, h0, h⟩ := tyArgs_cons h
  obtain ⟨a1, r1, rfl, h1, h⟩ := tyArgs_cons h
  obtain ⟨a2, r2, rfl, h2, h⟩ := tyArgs_cons h
  obtain rfl := tyArgs_nil h
  obtain ⟨os, hs, ms, sp, tl, th, hk⟩ := skin_of h0
  obtain ⟨ta, tb, rfl, _⟩ := span_of h1
  obtain ⟨gain, rfl, _⟩ := ty_int (by kernel_rfl) (by kernel_rfl) h2
  obtain rfl := hk.eq
  refine con_plain Sq_ok Try.func7 rfl (by kernel_rfl) ?_
  have ho := okS_of hk.os
  rw [eq7, ho, ← check_eq]
  cases hg : greatB os hs ms
  · have hl := great_len hg
    have hp := pick_ok (e := sErr (checkW os hs ms sp tl th) sp ta tb gain) (ms := ms.map (aft ta tb)) ho ⟨hl.1, hl.2.1, by simpa using hl.2.2⟩
    rw [smA_of hl, okA_of hp.1 hp.2, same_self]
    simp
  · rfl
end Go.Proofs.Yteclfchlejocmaa

set_option maxRecDepth 100000
set_option linter.unusedVariables false
namespace Go.Proofs.Yteclfchlejocmaa
open Go Go.Ev

theorem eq8 (os hs ms : List (List AV)) (sp tl th : Int) (xa xb xg xn ya yb yg yn : Int) : evF Try.prog Sq (ro 8) (fun _ _ => none) Try.f8 [.agg [.rs 32 os, .rs 71 hs, .i .i64 sp, .i .i64 tl, .i .i64 th, .rs 46 ms], .agg [.i .i64 xa, .i .i64 xb, .i .i64 xg, .i .i64 xn], .agg [.i .i64 ya, .i .i64 yb, .i .i64 yg, .i .i64 yn]] =
    cond (greatB os hs ms) (some (.b true)) (cond (okS os && smA os hs ms) (cond (sErr (checkW os hs ms sp tl th) sp 0 0 0 != 0) (cond (sErr (checkW os hs ms sp tl th) sp 0 0 0 != 0) (cond (okS os) (cond (sErr (checkW os hs ms sp tl th) sp 0 0 0 == checkW os hs ms sp tl th) (some (.b true)) (some (.b false))) (none)) (some (.b false))) (cond (okA os hs ms) (cond (!sameB os hs ms (pickL (sErr (checkW os hs ms sp tl th) sp 0 0 0) os) (pickL (sErr (checkW os hs ms sp tl th) sp 0 0 0) hs) (pickL (sErr (checkW os hs ms sp tl th) sp 0 0 0) (List.map (aft 0 0) ms)) sp tl th (pickZ (sErr (checkW os hs ms sp tl th) sp 0 0 0) (Wr (sp + 0))) (pickZ (sErr (checkW os hs ms sp tl th) sp 0 0 0) (bmax (Wr (tl - 0)) 0)) (pickZ (sErr (checkW os hs ms sp tl th) sp 0 0 0) (bmax (Wr (th - 0)) 0))) (cond (sErr (checkW os hs ms sp tl th) sp 0 0 0 != 0) (cond (okS os) (cond (sErr (checkW os hs ms sp tl th) sp 0 0 0 == checkW os hs ms sp tl th) (some (.b true)) (some (.b false))) (none)) (some (.b false))) (cond (okS os && smA os hs ms) (cond (sErr (checkW os hs ms sp tl th) sp xa xb xg != 0) (some (.b true)) (cond (okS (pickL (sErr (checkW os hs ms sp tl th) sp xa xb xg) os) && smA (pickL (sErr (checkW os hs ms sp tl th) sp xa xb xg) os) (pickL (sErr (checkW os hs ms sp tl th) sp xa xb xg) hs) (pickL (sErr (checkW os hs ms sp tl th) sp xa xb xg) (List.map (aft xa xb) ms))) (cond (sErr (checkW (pickL (sErr (checkW os hs ms sp tl th) sp xa xb xg) os) (pickL (sErr (checkW os hs ms sp tl th) sp xa xb xg) hs) (pickL (sErr (checkW os hs ms sp tl th) sp xa xb xg) (List.map (aft xa xb) ms)) (pickZ (sErr (checkW os hs ms sp tl th) sp xa xb xg) (Wr (sp + xg))) (pickZ (sErr (checkW os hs ms sp tl th) sp xa xb xg) (bmax (Wr (tl - xb)) 0)) (pickZ (sErr (checkW os hs ms sp tl th) sp xa xb xg) (bmax (Wr (th - xa)) 0))) (pickZ (sErr (checkW os hs ms sp tl th) sp xa xb xg) (Wr (sp + xg))) ya yb yg != 0) (some (.b true)) (cond (decide (Wr (xb + yb) > 2000)) (some (.b true)) (cond (okS os && smA os hs ms) (cond (sErr (checkW os hs ms sp tl th) sp (Wr (xa + ya)) (Wr (xb + yb)) (Wr (xg + yg)) == 0) (cond (okA (pickL (sErr (checkW (pickL (sErr (checkW os hs ms sp tl th) sp xa xb xg) os) (pickL (sErr (checkW os hs ms sp tl th) sp xa xb xg) hs) (pickL (sErr (checkW os hs ms sp tl th) sp xa xb xg) (List.map (aft xa xb) ms)) (pickZ (sErr (checkW os hs ms sp tl th) sp xa xb xg) (Wr (sp + xg))) (pickZ (sErr (checkW os hs ms sp tl th) sp xa xb xg) (bmax (Wr (tl - xb)) 0)) (pickZ (sErr (checkW os hs ms sp tl th) sp xa xb xg) (bmax (Wr (th - xa)) 0))) (pickZ (sErr (checkW os hs ms sp tl th) sp xa xb xg) (Wr (sp + xg))) ya yb yg) (pickL (sErr (checkW os hs ms sp tl th) sp xa xb xg) os)) (pickL (sErr (checkW (pickL (sErr (checkW os hs ms sp tl th) sp xa xb xg) os) (pickL (sErr (checkW os hs ms sp tl th) sp xa xb xg) hs) (pickL (sErr (checkW os hs ms sp tl th) sp xa xb xg) (List.map (aft xa xb) ms)) (pickZ (sErr (checkW os hs ms sp tl th) sp xa xb xg) (Wr (sp + xg))) (pickZ (sErr (checkW os hs ms sp tl th) sp xa xb xg) (bmax (Wr (tl - xb)) 0)) (pickZ (sErr (checkW os hs ms sp tl th) sp xa xb xg) (bmax (Wr (th - xa)) 0))) (pickZ (sErr (checkW os hs ms sp tl th) sp xa xb xg) (Wr (sp + xg))) ya yb yg) (pickL (sErr (checkW os hs ms sp tl th) sp xa xb xg) hs)) (pickL (sErr (checkW (pickL (sErr (checkW os hs ms sp tl th) sp xa xb xg) os) (pickL (sErr (checkW os hs ms sp tl th) sp xa xb xg) hs) (pickL (sErr (checkW os hs ms sp tl th) sp xa xb xg) (List.map (aft xa xb) ms)) (pickZ (sErr (checkW os hs ms sp tl th) sp xa xb xg) (Wr (sp + xg))) (pickZ (sErr (checkW os hs ms sp tl th) sp xa xb xg) (bmax (Wr (tl - xb)) 0)) (pickZ (sErr (checkW os hs ms sp tl th) sp xa xb xg) (bmax (Wr (th - xa)) 0))) (pickZ (sErr (checkW os hs ms sp tl th) sp xa xb xg) (Wr (sp + xg))) ya yb yg) (List.map (aft ya yb) (pickL (sErr (checkW os hs ms sp tl th) sp xa xb xg) (List.map (aft xa xb) ms))))) (cond (sameB (pickL (sErr (checkW (pickL (sErr (checkW os hs ms sp tl th) sp xa xb xg) os) (pickL (sErr (checkW os hs ms sp tl th) sp xa xb xg) hs) (pickL (sErr (checkW os hs ms sp tl th) sp xa xb xg) (List.map (aft xa xb) ms)) (pickZ (sErr (checkW os hs ms sp tl th) sp xa xb xg) (Wr (sp + xg))) (pickZ (sErr (checkW os hs ms sp tl th) sp xa xb xg) (bmax (Wr (tl - xb)) 0)) (pickZ (sErr (checkW os hs ms sp tl th) sp xa xb xg) (bmax (Wr (th - xa)) 0))) (pickZ (sErr (checkW os hs ms sp tl th) sp xa xb xg) (Wr (sp + xg))) ya yb yg) (pickL (sErr (checkW os hs ms sp tl th) sp xa xb xg) os)) (pickL (sErr (checkW (pickL (sErr (checkW os hs ms sp tl th) sp xa xb xg) os) (pickL (sErr (checkW os hs ms sp tl th) sp xa xb xg) hs) (pickL (sErr (checkW os hs ms sp tl th) sp xa xb xg) (List.map (aft xa xb) ms)) (pickZ (sErr (checkW os hs ms sp tl th) sp xa xb xg) (Wr (sp + xg))) (pickZ (sErr (checkW os hs ms sp tl th) sp xa xb xg) (bmax (Wr (tl - xb)) 0)) (pickZ (sErr (checkW os hs ms sp tl th) sp xa xb xg) (bmax (Wr (th - xa)) 0))) (pickZ (sErr (checkW os hs ms sp tl th) sp xa xb xg) (Wr (sp + xg))) ya yb yg) (pickL (sErr (checkW os hs ms sp tl th) sp xa xb xg) hs)) (pickL (sErr (checkW (pickL (sErr (checkW os hs ms sp tl th) sp xa xb xg) os) (pickL (sErr (checkW os hs ms sp tl th) sp xa xb xg) hs) (pickL (sErr (checkW os hs ms sp tl th) sp xa xb xg) (List.map (aft xa xb) ms)) (pickZ (sErr (checkW os hs ms sp tl th) sp xa xb xg) (Wr (sp + xg))) (pickZ (sErr (checkW os hs ms sp tl th) sp xa xb xg) (bmax (Wr (tl - xb)) 0)) (pickZ (sErr (checkW os hs ms sp tl th) sp xa xb xg) (bmax (Wr (th - xa)) 0))) (pickZ (sErr (checkW os hs ms sp tl th) sp xa xb xg) (Wr (sp + xg))) ya yb yg) (List.map (aft ya yb) (pickL (sErr (checkW os hs ms sp tl th) sp xa xb xg) (List.map (aft xa xb) ms)))) (pickL (sErr (checkW os hs ms sp tl th) sp (Wr (xa + ya)) (Wr (xb + yb)) (Wr (xg + yg))) os) (pickL (sErr (checkW os hs ms sp tl th) sp (Wr (xa + ya)) (Wr (xb + yb)) (Wr (xg + yg))) hs) (pickL (sErr (checkW os hs ms sp tl th) sp (Wr (xa + ya)) (Wr (xb + yb)) (Wr (xg + yg))) (List.map (aft (Wr (xa + ya)) (Wr (xb + yb))) ms)) (pickZ (sErr (checkW (pickL (sErr (checkW os hs ms sp tl th) sp xa xb xg) os) (pickL (sErr (checkW os hs ms sp tl th) sp xa xb xg) hs) (pickL (sErr (checkW os hs ms sp tl th) sp xa xb xg) (List.map (aft xa xb) ms)) (pickZ (sErr (checkW os hs ms sp tl th) sp xa xb xg) (Wr (sp + xg))) (pickZ (sErr (checkW os hs ms sp tl th) sp xa xb xg) (bmax (Wr (tl - xb)) 0)) (pickZ (sErr (checkW os hs ms sp tl th) sp xa xb xg) (bmax (Wr (th - xa)) 0))) (pickZ (sErr (checkW os hs ms sp tl th) sp xa xb xg) (Wr (sp + xg))) ya yb yg) (Wr (pickZ (sErr (checkW os hs ms sp tl th) sp xa xb xg) (Wr (sp + xg)) + yg))) (pickZ (sErr (checkW (pickL (sErr (checkW os hs ms sp tl th) sp xa xb xg) os) (pickL (sErr (checkW os hs ms sp tl th) sp xa xb xg) hs) (pickL (sErr (checkW os hs ms sp tl th) sp xa xb xg) (List.map (aft xa xb) ms)) (pickZ (sErr (checkW os hs ms sp tl th) sp xa xb xg) (Wr (sp + xg))) (pickZ (sErr (checkW os hs ms sp tl th) sp xa xb xg) (bmax (Wr (tl - xb)) 0)) (pickZ (sErr (checkW os hs ms sp tl th) sp xa xb xg) (bmax (Wr (th - xa)) 0))) (pickZ (sErr (checkW os hs ms sp tl th) sp xa xb xg) (Wr (sp + xg))) ya yb yg) (bmax (Wr (pickZ (sErr (checkW os hs ms sp tl th) sp xa xb xg) (bmax (Wr (tl - xb)) 0) - yb)) 0)) (pickZ (sErr (checkW (pickL (sErr (checkW os hs ms sp tl th) sp xa xb xg) os) (pickL (sErr (checkW os hs ms sp tl th) sp xa xb xg) hs) (pickL (sErr (checkW os hs ms sp tl th) sp xa xb xg) (List.map (aft xa xb) ms)) (pickZ (sErr (checkW os hs ms sp tl th) sp xa xb xg) (Wr (sp + xg))) (pickZ (sErr (checkW os hs ms sp tl th) sp xa xb xg) (bmax (Wr (tl - xb)) 0)) (pickZ (sErr (checkW os hs ms sp tl th) sp xa xb xg) (bmax (Wr (th - xa)) 0))) (pickZ (sErr (checkW os hs ms sp tl th) sp xa xb xg) (Wr (sp + xg))) ya yb yg) (bmax (Wr (pickZ (sErr (checkW os hs ms sp tl th) sp xa xb xg) (bmax (Wr (th - xa)) 0) - ya)) 0)) (pickZ (sErr (checkW os hs ms sp tl th) sp (Wr (xa + ya)) (Wr (xb + yb)) (Wr (xg + yg))) (Wr (sp + Wr (xg + yg)))) (pickZ (sErr (checkW os hs ms sp tl th) sp (Wr (xa + ya)) (Wr (xb + yb)) (Wr (xg + yg))) (bmax (Wr (tl - Wr (xb + yb))) 0)) (pickZ (sErr (checkW os hs ms sp tl th) sp (Wr (xa + ya)) (Wr (xb + yb)) (Wr (xg + yg))) (bmax (Wr (th - Wr (xa + ya))) 0))) (some (.b true)) (some (.b false))) (none)) (some (.b false))) (none)))) (none))) (none))) (none))) (none)) := by kernel_rfl
theorem pickL_zero (l : List (List AV)) : pickL 0 l = l := rfl
theorem pickZ_zero (x : Int) : pickZ 0 x = x := rfl
theorem aft_cells {ta tb : Int} {e : List AV} (h : e.length = 4) : cU (aft ta tb e) = cU e ∧ cV (aft ta tb e) = cV e ∧ c2 (aft ta tb e) = bmax (Wr (c2 e - tb)) 0 ∧ c3 (aft ta tb e) = bmax (Wr (c3 e - ta)) 0 ∧ (aft ta tb e).length = 4 := by
  have hb : 2 + ([AV.i .i64 (bmax (Wr (c2 e - tb)) 0), AV.i .i64 (bmax (Wr (c3 e - ta)) 0)] : List AV).length ≤ e.length := by simp [h]
  unfold aft
  refine ⟨?_, ?_, ?_, ?_, ?_⟩
  · unfold cU; rw [setCs_getD hb]; rfl
  · unfold cV; rw [setCs_getD hb]; rfl
  · show toI ((setCs e 2 _).getD 2 .u) = _
    rw [setCs_getD hb]; rfl
  · show toI ((setCs e 2 _).getD 3 .u) = _
    rw [setCs_getD hb]; rfl
  · rw [setCs_length hb, h]
theorem map_getD {f : List AV → List AV} {ms : List (List AV)} {i : Nat} (h : i < ms.length) : (ms.map f).getD i [] = f (ms.getD i []) := by
  simp [List.getD_eq_getElem?_getD, List.getElem?_eq_getElem h]
theorem bmax_id {x : Int} (h : 0 ≤ x) : bmax x 0 = x := by
  unfold bmax
  split <;> omega
theorem bmax_two {t x y : Int} (ht : 0 ≤ t ∧ t ≤ 2000) (hx : 0 ≤ x ∧ x ≤ 2000) (hy : 0 ≤ y ∧ y ≤ 2000) : bmax (Wr (bmax (Wr (t - x)) 0 - y)) 0 = bmax (Wr (t - Wr (x + y))) 0 := by
  have e1 : Wr (t - x) = t - x := wrap_id (by omega) (by omega)
  have e2 : Wr (x + y) = x + y := wrap_id (by omega) (by omega)
  have e3 : Wr (t - (x + y)) = t - (x + y) := wrap_id (by omega) (by omega)
  rw [e1, e2, e3]
  have e4 : bmax (t - x) 0 = max (t - x) 0 := bmax_max _ _
  have e5 : Wr (max (t - x) 0 - y) = max (t - x) 0 - y := wrap_id (by omega) (by omega)
  rw [e4, e5, bmax_max, bmax_max]
  omega
theorem sErr_zero {c sp ta tb gain : Int} (h : sErr c sp ta tb gain = 0) : c = 0 ∧ (0 ≤ ta ∧ ta ≤ tb ∧ tb ≤ 2000) ∧ (0 ≤ gain ∧ gain ≤ 1000) ∧ Wr (sp + gain) ≤ 1000 := by
  unfold sErr at h
  cases h1 : c != 0
  · rw [h1] at h
    cases h2 : spB ta tb 2000
    · rw [h2] at h; simp at h
    · rw [h2] at h
      cases h3 : inB gain 0 1000
      · rw [h3] at h; simp at h
      · rw [h3] at h
        cases h4 : decide (Wr (sp + gain) > 1000)
        · have := of_decide_eq_false h4
          exact ⟨by simpa using h1, spB_true.1 h2, inB_true.1 h3, by omega⟩
        · rw [h4] at h; simp at h
  · rw [h1] at h
    have : c ≠ 0 := by simpa using h1
    exact absurd (show c = 0 from h) this
theorem sErr_ok {sp ta tb gain : Int} (h1 : 0 ≤ ta ∧ ta ≤ tb ∧ tb ≤ 2000) (h2 : 0 ≤ gain ∧ gain ≤ 1000) (h3 : Wr (sp + gain) ≤ 1000) : sErr 0 sp ta tb gain = 0 := by
  unfold sErr
  rw [spB_true.2 h1, inB_true.2 h2, show decide (Wr (sp + gain) > 1000) = false from decide_eq_false (by omega)]
  rfl
theorem same_of {os hs ms ms' : List (List AV)} {sp tl th sp' tl' th' : Int} (h1 : sp = sp') (h2 : tl = tl') (h3 : th = th') (hl : ms'.length = ms.length) (hm : ∀ i, i < ms.length → neQ ms ms' i = false) : sameB os hs ms os hs ms' sp tl th sp' tl' th' = true := by
  subst h1; subst h2; subst h3
  have : anyN (neQ ms ms') ms.length = false := by
    rw [← anyN_const_false ms.length]
    exact anyN_congr hm
  unfold sameB
  rw [this, neP_self, neQ_self, hl]
  simp
theorem twice_law (avs : List AV) (h : TyArgs Try.prog Try.f8.params.toList avs) : Con Try.prog 8 avs (.b true) := by
  obtain ⟨a0, r0, rfl, h0, h⟩ := tyArgs_cons h
  obtain ⟨a1, r1, rfl, h1, h⟩ := tyArgs_cons h
  obtain ⟨a2, r2, rfl, h2, h⟩ := tyArgs_cons h
  obtain rfl := tyArgs_nil h
  obtain ⟨os, hs, ms, sp, tl, th, hk⟩ := skin_of h0
  have four : ∀ {a : AV}, TyArg Try.prog 56 a → ∃ x1 x2 x3 x4, a = .agg [.i .i64 x1, .i .i64 x2, .i .i64 x3, .i .i64 x4] := by
    intro a ha
    obtain ⟨p, rfl, hw⟩ := ty_agg (c := [.int .i64, .int .i64, .int .i64, .int .i64]) (by kernel_rfl) (by kernel_rfl) ha
    obtain ⟨b0, q0, rfl, w0, hw⟩ := WTs_cons hw
    obtain ⟨b1, q1, rfl, w1, hw⟩ := WTs_cons hw
    obtain ⟨b2, q2, rfl, w2, hw⟩ := WTs_cons hw
    obtain ⟨b3, q3, rfl, w3, hw⟩ := WTs_cons hw
    obtain rfl := WTs_nil hw
    obtain ⟨x1, rfl, _⟩ := WT_int w0
    obtain ⟨x2, rfl, _⟩ := WT_int w1
    obtain ⟨x3, rfl, _⟩ := WT_int w2
    obtain ⟨x4, rfl, _⟩ := WT_int w3
    exact ⟨_, _, _, _, rfl⟩
  obtain ⟨xa, xb, xg, xn, rfl⟩ := four h1
  obtain ⟨ya, yb, yg, yn, rfl⟩ := four h2
  obtain rfl := hk.eq
  refine con_plain Sq_ok Try.func8 rfl (by kernel_rfl) ?_
  have ho := okS_of hk.os
  have h4 : ∀ e, e ∈ ms → e.length = 4 := fun e he => (hk.ms.each e he).1
  rw [eq8]
  cases hg : greatB os hs ms
  · have hl := great_len hg
    have hsm := smA_of hl
    have hoa := okA_of ho hl
    have hlm : ∀ f : List AV → List AV, os.length ≤ 30 ∧ hs.length ≤ 30 ∧ (ms.map f).length ≤ 60 := fun f => ⟨hl.1, hl.2.1, by simpa using hl.2.2⟩
    rw [ho, hsm, hoa]
    cases hc : checkW os hs ms sp tl th != 0
    · have hc : checkW os hs ms sp tl th = 0 := by simpa using hc
      have g := good_of hc
      obtain ⟨s0, s1⟩ := g.spn
      obtain ⟨t0, t1, t2⟩ := g.tk
      have w0 : Wr (sp + 0) = sp := (wrap_id (by omega) (by omega)).trans (by omega)
      have e0 : sErr 0 sp 0 0 0 = 0 := sErr_ok (by omega) (by omega) (by rw [w0]; omega)
      rw [hc, e0]
      simp only [pickL_zero, pickZ_zero]
      have z0 : ∀ {x : Int}, 0 ≤ x → x ≤ 2000 → bmax (Wr (x - 0)) 0 = x := fun h0 h1 => by
        rw [show Wr (_ - 0) = _ from wrap_id (by omega) (by omega), bmax_id (by omega)]
        omega
      rw [same_of (ms' := ms.map (aft 0 0)) w0.symm (z0 t0 (by omega)).symm (z0 (by omega) t2).symm (by simp) (fun i hi => by
        have hm := g.mks _ (getD_mem hi)
        have hlo := hm.lo
        have hle := hm.le
        have hhi := hm.hi
        obtain ⟨q1, q2, q3, q4, _⟩ := aft_cells (ta := 0) (tb := 0) (h4 _ (getD_mem hi))
        unfold neQ
        rw [map_getD hi, q1, q2, q3, q4, z0 hlo (by omega), z0 (by omega) hhi]
        simp)]
      cases h1 : sErr 0 sp xa xb xg != 0
      · have h1 : sErr 0 sp xa xb xg = 0 := by simpa using h1
        obtain ⟨_, x1, x2, x3⟩ := sErr_zero h1
        have wx : Wr (sp + xg) = sp + xg := wrap_id (by omega) (by omega)
        rw [h1]
        simp only [pickL_zero, pickZ_zero]
        rw [ho, smA_of (hlm (aft xa xb))]
        cases h2 : sErr (checkW os hs (ms.map (aft xa xb)) (Wr (sp + xg)) (bmax (Wr (tl - xb)) 0) (bmax (Wr (th - xa)) 0)) (Wr (sp + xg)) ya yb yg != 0
        · have h2 : sErr (checkW os hs (ms.map (aft xa xb)) (Wr (sp + xg)) (bmax (Wr (tl - xb)) 0) (bmax (Wr (th - xa)) 0)) (Wr (sp + xg)) ya yb yg = 0 := by simpa using h2
          obtain ⟨_, y1, y2, y3⟩ := sErr_zero h2
          have wb : Wr (xb + yb) = xb + yb := wrap_id (by omega) (by omega)
          have wa : Wr (xa + ya) = xa + ya := wrap_id (by omega) (by omega)
          have wg : Wr (xg + yg) = xg + yg := wrap_id (by omega) (by omega)
          cases h3 : decide (Wr (xb + yb) > 2000)
          · have h3 := of_decide_eq_false h3
            rw [wb] at h3
            rw [wx] at x3 y3
            have wy : Wr (sp + xg + yg) = sp + xg + yg := wrap_id (by omega) (by omega)
            rw [wy] at y3
            have wz : Wr (sp + (xg + yg)) = sp + (xg + yg) := wrap_id (by omega) (by omega)
            have e3 : sErr 0 sp (Wr (xa + ya)) (Wr (xb + yb)) (Wr (xg + yg)) = 0 := sErr_ok (by rw [wa, wb]; omega) (by rw [wg]; omega) (by rw [wg, wz]; omega)
            rw [h2, e3]
            simp only [pickL_zero, pickZ_zero]
            have hmm : okA os hs ((ms.map (aft xa xb)).map (aft ya yb)) = true := okA_of ho ⟨hl.1, hl.2.1, by simpa using hl.2.2⟩
            have hsame : sameB os hs ((ms.map (aft xa xb)).map (aft ya yb)) os hs (ms.map (aft (Wr (xa + ya)) (Wr (xb + yb)))) (Wr (Wr (sp + xg) + yg)) (bmax (Wr (bmax (Wr (tl - xb)) 0 - yb)) 0) (bmax (Wr (bmax (Wr (th - xa)) 0 - ya)) 0)
                (Wr (sp + Wr (xg + yg))) (bmax (Wr (tl - Wr (xb + yb))) 0) (bmax (Wr (th - Wr (xa + ya))) 0) = true := by
              refine same_of ?_ (bmax_two ⟨t0, by omega⟩ (by omega) (by omega)) (bmax_two ⟨by omega, t2⟩ (by omega) (by omega)) (by simp) (fun i hi => ?_)
              · rw [wx, wg, wy, wz]; omega
              · have hi : i < ms.length := by simpa using hi
                have hm := g.mks _ (getD_mem hi)
                have hlo := hm.lo
                have hle := hm.le
                have hhi := hm.hi
                obtain ⟨q1, q2, q3, q4, q5⟩ := aft_cells (ta := xa) (tb := xb) (h4 _ (getD_mem hi))
                obtain ⟨p1, p2, p3, p4, _⟩ := aft_cells (ta := ya) (tb := yb) q5
                obtain ⟨r1, r2, r3, r4, _⟩ := aft_cells (ta := Wr (xa + ya)) (tb := Wr (xb + yb)) (h4 _ (getD_mem hi))
                unfold neQ
                rw [map_getD (by simpa using hi), map_getD hi, map_getD hi, p1, p2, p3, p4, q1, q2, q3, q4, r1, r2, r3, r4, bmax_two ⟨hlo, by omega⟩ (by omega) (by omega), bmax_two ⟨by omega, hhi⟩ (by omega) (by omega)]
                simp
            rw [hmm, hsame]
            rfl
          · rfl
        · rfl
      · rfl
    · have hne : checkW os hs ms sp tl th ≠ 0 := by simpa using hc
      have e0 : sErr (checkW os hs ms sp tl th) sp 0 0 0 = checkW os hs ms sp tl th := by
        unfold sErr
        rw [hc]
        rfl
      rw [e0, hc]
      simp
  · rfl
end Go.Proofs.Yteclfchlejocmaa
