/-
  Two seasons take what one takes that takes both their spans, as far as nothing is gone below 0, and a season that takes nothing changes nothing, for every skin and any two seasons (statement WearTwice); this text is a part of that proof.
-/
import Derived.Test.YteclfchlejocmaaKd
import Derived.Test.YteclfchlejocmaaKa
set_option linter.unusedVariables false
set_option maxRecDepth 100000
set_option linter.unusedVariables false
namespace Go.Proofs.Yteclfchlejocmaa
open Go Go.Ev

/-! ### wear.Check -/
noncomputable def c17 : Code := match Try.f17.body with | some c => c | _ => .skip
noncomputable def s17a (os : List (List AV)) (hs : List (List AV)) (sp : Int) (tl : Int) (th : Int) (ms : List (List AV)) (n_1 : Int) (ms_1 : List (List AV)) (n_2 : Int) (n_3 : Int) : St :=
  { t := [(1, .rp [.sl 32, .sl 71, .int .i64, .int .i64, .int .i64, .sl 46] [.rs 32 os, .rs 71 hs, .i .i64 sp, .i .i64 tl, .i .i64 th, .rs 46 ms] 0), (2, .i .i64 n_1), (46, .rs 46 ms_1), (47, .i .i64 n_2), (48, .i .i64 n_3)], m := [], nx := 0, nt := 106 }
noncomputable def lp17a : Code := loopAt c17 [true, true, true, false, true, false]
noncomputable def ex17a (os : List (List AV)) (hs : List (List AV)) (sp : Int) (tl : Int) (th : Int) (ms : List (List AV)) (n_1 : Int) (ms_1 : List (List AV)) (n_2 : Int) (n_3 : Int) : Bool := (!hasB os hs (cU (ms_1.getD n_3.toNat [])) (cV (ms_1.getD n_3.toNat []))) || (!spB (c2 (ms_1.getD n_3.toNat [])) (c3 (ms_1.getD n_3.toNat [])) 2000)
noncomputable def df17a (os : List (List AV)) (hs : List (List AV)) (sp : Int) (tl : Int) (th : Int) (ms : List (List AV)) (n_1 : Int) (ms_1 : List (List AV)) (n_2 : Int) (n_3 : Int) : Bool := (inb n_3 ms_1.length) && (okS os && hs.length.ble 9223372036854775807)
noncomputable def q17a_0 (os : List (List AV)) (hs : List (List AV)) (sp : Int) (tl : Int) (th : Int) (ms : List (List AV)) (n_1 : Int) (ms_1 : List (List AV)) (n_2 : Int) (n_3 : Int) : Ex × St := (.ret, s17a os hs sp tl th ms (cond (!hasB os hs (cU (ms_1.getD n_3.toNat [])) (cV (ms_1.getD n_3.toNat []))) (7) (1)) ms_1 n_2 n_3)
noncomputable def q17a (os : List (List AV)) (hs : List (List AV)) (sp : Int) (tl : Int) (th : Int) (ms : List (List AV)) (n_1 : Int) (ms_1 : List (List AV)) (n_2 : Int) (n_3 : Int) : Ex × St := q17a_0 os hs sp tl th ms n_1 ms_1 n_2 n_3
noncomputable def e17a (os : List (List AV)) (hs : List (List AV)) (sp : Int) (tl : Int) (th : Int) (ms : List (List AV)) (n_1 : Int) (ms_1 : List (List AV)) (n_2 : Int) (k : Nat) : Bool := ex17a os hs sp tl th ms n_1 ms_1 n_2 ((k : Nat) : Int)
noncomputable def d17a (os : List (List AV)) (hs : List (List AV)) (sp : Int) (tl : Int) (th : Int) (ms : List (List AV)) (n_1 : Int) (ms_1 : List (List AV)) (n_2 : Int) (k : Nat) : Bool := df17a os hs sp tl th ms n_1 ms_1 n_2 ((k : Nat) : Int)
noncomputable def st17a (os : List (List AV)) (hs : List (List AV)) (sp : Int) (tl : Int) (th : Int) (ms : List (List AV)) (n_1 : Int) (ms_1 : List (List AV)) (n_2 : Int) (k : Nat) : St := s17a os hs sp tl th ms n_1 ms_1 n_2 ((k : Nat) : Int)
noncomputable def ou17a (os : List (List AV)) (hs : List (List AV)) (sp : Int) (tl : Int) (th : Int) (ms : List (List AV)) (n_1 : Int) (ms_1 : List (List AV)) (n_2 : Int) (k : Nat) : Ex × St := q17a os hs sp tl th ms n_1 ms_1 n_2 ((k : Nat) : Int)
noncomputable def N17a (os : List (List AV)) (hs : List (List AV)) (sp : Int) (tl : Int) (th : Int) (ms : List (List AV)) (n_1 : Int) (ms_1 : List (List AV)) (n_2 : Int) : Nat := n_2.toNat
noncomputable def g17a (os : List (List AV)) (hs : List (List AV)) (sp : Int) (tl : Int) (th : Int) (ms : List (List AV)) (n_1 : Int) (ms_1 : List (List AV)) (n_2 : Int) : Bool := decide ((n_2 : Int) ≤ 9223372036854775807) && allN (d17a os hs sp tl th ms n_1 ms_1 n_2) (N17a os hs sp tl th ms n_1 ms_1 n_2)
noncomputable def l17a (st : St) : Option (List (Bool × Ex × St)) := match normV Try.prog [1, 2, 46, 47, 48] 0 st with
  | some ([.rp [.sl 32, .sl 71, .int .i64, .int .i64, .int .i64, .sl 46] [.rs 32 os, .rs 71 hs, .i .i64 sp, .i .i64 tl, .i .i64 th, .rs 46 ms] 0, .i .i64 n_1, .rs 46 ms_1, .i .i64 n_2, .i .i64 (.ofNat 0)], [], 106) => some [(g17a os hs sp tl th ms n_1 ms_1 n_2 && anyN (e17a os hs sp tl th ms n_1 ms_1 n_2) (N17a os hs sp tl th ms n_1 ms_1 n_2), .ret, (q17a_0 os hs sp tl th ms n_1 ms_1 n_2 (((firstN (e17a os hs sp tl th ms n_1 ms_1 n_2) (N17a os hs sp tl th ms n_1 ms_1 n_2)) : Nat) : Int)).2), (g17a os hs sp tl th ms n_1 ms_1 n_2, .ext 1, st17a os hs sp tl th ms n_1 ms_1 n_2 (N17a os hs sp tl th ms n_1 ms_1 n_2))]
  | _ => none
noncomputable def s17b (os : List (List AV)) (hs : List (List AV)) (sp : Int) (tl : Int) (th : Int) (ms : List (List AV)) (n_1 : Int) (ms_1 : List (List AV)) (n_2 : Int) (n_3 : Int) : St :=
  { t := [(1, .rp [.sl 32, .sl 71, .int .i64, .int .i64, .int .i64, .sl 46] [.rs 32 os, .rs 71 hs, .i .i64 sp, .i .i64 tl, .i .i64 th, .rs 46 ms] 0), (2, .i .i64 n_1), (66, .rs 46 ms_1), (67, .i .i64 n_2), (68, .i .i64 n_3)], m := [], nx := 0, nt := 106 }
noncomputable def lp17b : Code := loopAt c17 [true, true, true, true, false, true, false]
noncomputable def ex17b (os : List (List AV)) (hs : List (List AV)) (sp : Int) (tl : Int) (th : Int) (ms : List (List AV)) (n_1 : Int) (ms_1 : List (List AV)) (n_2 : Int) (n_3 : Int) : Bool := (decide (n_3 > 0)) && (decide (orderI (cU (ms.getD (IntKind.i64.wrap (n_3 - 1)).toNat [])) (cV (ms.getD (IntKind.i64.wrap (n_3 - 1)).toNat [])) (cU (ms_1.getD n_3.toNat [])) (cV (ms_1.getD n_3.toNat [])) ≥ 0))
noncomputable def df17b (os : List (List AV)) (hs : List (List AV)) (sp : Int) (tl : Int) (th : Int) (ms : List (List AV)) (n_1 : Int) (ms_1 : List (List AV)) (n_2 : Int) (n_3 : Int) : Bool := (inb n_3 ms_1.length) && (cond (decide (n_3 > 0)) (inb (IntKind.i64.wrap (n_3 - 1)) ms.length) (true))
noncomputable def q17b_0 (os : List (List AV)) (hs : List (List AV)) (sp : Int) (tl : Int) (th : Int) (ms : List (List AV)) (n_1 : Int) (ms_1 : List (List AV)) (n_2 : Int) (n_3 : Int) : Ex × St := (.ret, s17b os hs sp tl th ms 8 ms_1 n_2 n_3)
noncomputable def q17b (os : List (List AV)) (hs : List (List AV)) (sp : Int) (tl : Int) (th : Int) (ms : List (List AV)) (n_1 : Int) (ms_1 : List (List AV)) (n_2 : Int) (n_3 : Int) : Ex × St := q17b_0 os hs sp tl th ms n_1 ms_1 n_2 n_3
noncomputable def e17b (os : List (List AV)) (hs : List (List AV)) (sp : Int) (tl : Int) (th : Int) (ms : List (List AV)) (n_1 : Int) (ms_1 : List (List AV)) (n_2 : Int) (k : Nat) : Bool := ex17b os hs sp tl th ms n_1 ms_1 n_2 ((k : Nat) : Int)
noncomputable def d17b (os : List (List AV)) (hs : List (List AV)) (sp : Int) (tl : Int) (th : Int) (ms : List (List AV)) (n_1 : Int) (ms_1 : List (List AV)) (n_2 : Int) (k : Nat) : Bool := df17b os hs sp tl th ms n_1 ms_1 n_2 ((k : Nat) : Int)
noncomputable def st17b (os : List (List AV)) (hs : List (List AV)) (sp : Int) (tl : Int) (th : Int) (ms : List (List AV)) (n_1 : Int) (ms_1 : List (List AV)) (n_2 : Int) (k : Nat) : St := s17b os hs sp tl th ms n_1 ms_1 n_2 ((k : Nat) : Int)
noncomputable def ou17b (os : List (List AV)) (hs : List (List AV)) (sp : Int) (tl : Int) (th : Int) (ms : List (List AV)) (n_1 : Int) (ms_1 : List (List AV)) (n_2 : Int) (k : Nat) : Ex × St := q17b os hs sp tl th ms n_1 ms_1 n_2 ((k : Nat) : Int)
noncomputable def N17b (os : List (List AV)) (hs : List (List AV)) (sp : Int) (tl : Int) (th : Int) (ms : List (List AV)) (n_1 : Int) (ms_1 : List (List AV)) (n_2 : Int) : Nat := n_2.toNat
noncomputable def g17b (os : List (List AV)) (hs : List (List AV)) (sp : Int) (tl : Int) (th : Int) (ms : List (List AV)) (n_1 : Int) (ms_1 : List (List AV)) (n_2 : Int) : Bool := decide ((n_2 : Int) ≤ 9223372036854775807) && allN (d17b os hs sp tl th ms n_1 ms_1 n_2) (N17b os hs sp tl th ms n_1 ms_1 n_2)
noncomputable def l17b (st : St) : Option (List (Bool × Ex × St)) := match normV Try.prog [1, 2, 66, 67, 68] 0 st with
  | some ([.rp [.sl 32, .sl 71, .int .i64, .int .i64, .int .i64, .sl 46] [.rs 32 os, .rs 71 hs, .i .i64 sp, .i .i64 tl, .i .i64 th, .rs 46 ms] 0, .i .i64 n_1, .rs 46 ms_1, .i .i64 n_2, .i .i64 (.ofNat 0)], [], 106) => some [(g17b os hs sp tl th ms n_1 ms_1 n_2 && anyN (e17b os hs sp tl th ms n_1 ms_1 n_2) (N17b os hs sp tl th ms n_1 ms_1 n_2), .ret, (q17b_0 os hs sp tl th ms n_1 ms_1 n_2 (((firstN (e17b os hs sp tl th ms n_1 ms_1 n_2) (N17b os hs sp tl th ms n_1 ms_1 n_2)) : Nat) : Int)).2), (g17b os hs sp tl th ms n_1 ms_1 n_2, .ext 4, st17b os hs sp tl th ms n_1 ms_1 n_2 (N17b os hs sp tl th ms n_1 ms_1 n_2))]
  | _ => none
noncomputable def s17c (os : List (List AV)) (hs : List (List AV)) (sp : Int) (tl : Int) (th : Int) (ms : List (List AV)) (n_1 : Int) (ms_1 : List (List AV)) (n_2 : Int) (n_3 : Int) : St :=
  { t := [(1, .rp [.sl 32, .sl 71, .int .i64, .int .i64, .int .i64, .sl 46] [.rs 32 os, .rs 71 hs, .i .i64 sp, .i .i64 tl, .i .i64 th, .rs 46 ms] 0), (2, .i .i64 n_1), (90, .rs 46 ms_1), (91, .i .i64 n_2), (92, .i .i64 n_3)], m := [], nx := 0, nt := 106 }
noncomputable def lp17c : Code := loopAt c17 [true, true, true, true, true, false, true, false]
noncomputable def ex17c (os : List (List AV)) (hs : List (List AV)) (sp : Int) (tl : Int) (th : Int) (ms : List (List AV)) (n_1 : Int) (ms_1 : List (List AV)) (n_2 : Int) (n_3 : Int) : Bool := decide (List.foldl (loI sp (cU (ms_1.getD n_3.toNat [])) (cV (ms_1.getD n_3.toNat []))) tl ms > List.foldl (hiI sp (cU (ms_1.getD n_3.toNat [])) (cV (ms_1.getD n_3.toNat []))) th ms)
noncomputable def df17c (os : List (List AV)) (hs : List (List AV)) (sp : Int) (tl : Int) (th : Int) (ms : List (List AV)) (n_1 : Int) (ms_1 : List (List AV)) (n_2 : Int) (n_3 : Int) : Bool := (inb n_3 ms_1.length) && (ms.length.ble 9223372036854775807)
noncomputable def q17c_0 (os : List (List AV)) (hs : List (List AV)) (sp : Int) (tl : Int) (th : Int) (ms : List (List AV)) (n_1 : Int) (ms_1 : List (List AV)) (n_2 : Int) (n_3 : Int) : Ex × St := (.ret, s17c os hs sp tl th ms 10 ms_1 n_2 n_3)
noncomputable def q17c (os : List (List AV)) (hs : List (List AV)) (sp : Int) (tl : Int) (th : Int) (ms : List (List AV)) (n_1 : Int) (ms_1 : List (List AV)) (n_2 : Int) (n_3 : Int) : Ex × St := q17c_0 os hs sp tl th ms n_1 ms_1 n_2 n_3
noncomputable def e17c (os : List (List AV)) (hs : List (List AV)) (sp : Int) (tl : Int) (th : Int) (ms : List (List AV)) (n_1 : Int) (ms_1 : List (List AV)) (n_2 : Int) (k : Nat) : Bool := ex17c os hs sp tl th ms n_1 ms_1 n_2 ((k : Nat) : Int)
noncomputable def d17c (os : List (List AV)) (hs : List (List AV)) (sp : Int) (tl : Int) (th : Int) (ms : List (List AV)) (n_1 : Int) (ms_1 : List (List AV)) (n_2 : Int) (k : Nat) : Bool := df17c os hs sp tl th ms n_1 ms_1 n_2 ((k : Nat) : Int)
noncomputable def st17c (os : List (List AV)) (hs : List (List AV)) (sp : Int) (tl : Int) (th : Int) (ms : List (List AV)) (n_1 : Int) (ms_1 : List (List AV)) (n_2 : Int) (k : Nat) : St := s17c os hs sp tl th ms n_1 ms_1 n_2 ((k : Nat) : Int)
noncomputable def ou17c (os : List (List AV)) (hs : List (List AV)) (sp : Int) (tl : Int) (th : Int) (ms : List (List AV)) (n_1 : Int) (ms_1 : List (List AV)) (n_2 : Int) (k : Nat) : Ex × St := q17c os hs sp tl th ms n_1 ms_1 n_2 ((k : Nat) : Int)
noncomputable def N17c (os : List (List AV)) (hs : List (List AV)) (sp : Int) (tl : Int) (th : Int) (ms : List (List AV)) (n_1 : Int) (ms_1 : List (List AV)) (n_2 : Int) : Nat := n_2.toNat
noncomputable def g17c (os : List (List AV)) (hs : List (List AV)) (sp : Int) (tl : Int) (th : Int) (ms : List (List AV)) (n_1 : Int) (ms_1 : List (List AV)) (n_2 : Int) : Bool := decide ((n_2 : Int) ≤ 9223372036854775807) && allN (d17c os hs sp tl th ms n_1 ms_1 n_2) (N17c os hs sp tl th ms n_1 ms_1 n_2)
noncomputable def l17c (st : St) : Option (List (Bool × Ex × St)) := match normV Try.prog [1, 2, 90, 91, 92] 0 st with
  | some ([.rp [.sl 32, .sl 71, .int .i64, .int .i64, .int .i64, .sl 46] [.rs 32 os, .rs 71 hs, .i .i64 sp, .i .i64 tl, .i .i64 th, .rs 46 ms] 0, .i .i64 n_1, .rs 46 ms_1, .i .i64 n_2, .i .i64 (.ofNat 0)], [], 106) => some [(g17c os hs sp tl th ms n_1 ms_1 n_2 && anyN (e17c os hs sp tl th ms n_1 ms_1 n_2) (N17c os hs sp tl th ms n_1 ms_1 n_2), .ret, (q17c_0 os hs sp tl th ms n_1 ms_1 n_2 (((firstN (e17c os hs sp tl th ms n_1 ms_1 n_2) (N17c os hs sp tl th ms n_1 ms_1 n_2)) : Nat) : Int)).2), (g17c os hs sp tl th ms n_1 ms_1 n_2, .ext 6, st17c os hs sp tl th ms n_1 ms_1 n_2 (N17c os hs sp tl th ms n_1 ms_1 n_2))]
  | _ => none
noncomputable def L17 : LSpec := fun p st => match p with
  | [false, true, false, true, true, true] => l17a st
  | [false, true, false, true, true, true, true] => l17b st
  | [false, true, false, true, true, true, true, true] => l17c st
  | _ => none
noncomputable def tr17a (os : List (List AV)) (hs : List (List AV)) (sp : Int) (tl : Int) (th : Int) (ms : List (List AV)) (n_1 : Int) (ms_1 : List (List AV)) (n_2 : Int) (n_3 : Int) : Option (Ex × St) := cond (inb n_3 ms_1.length) (cond (okS os && hs.length.ble 9223372036854775807) (cond (!hasB os hs (cU (ms_1.getD n_3.toNat [])) (cV (ms_1.getD n_3.toNat []))) (some (.ret, s17a os hs sp tl th ms 7 ms_1 n_2 n_3)) (cond (!spB (c2 (ms_1.getD n_3.toNat [])) (c3 (ms_1.getD n_3.toNat [])) 2000) (some (.ret, s17a os hs sp tl th ms 1 ms_1 n_2 n_3)) (some (.nrm, s17a os hs sp tl th ms n_1 ms_1 n_2 (IntKind.i64.wrap (n_3 + 1)))))) (none)) (none)
theorem round17a (os : List (List AV)) (hs : List (List AV)) (sp : Int) (tl : Int) (th : Int) (ms : List (List AV)) (n_1 : Int) (ms_1 : List (List AV)) (n_2 : Int) (n_3 : Int) : round Try.prog Sk (ro 17) L17 lp17a [false, true, false, true, true, true] [1, 2, 46, 47, 48] 0 (s17a os hs sp tl th ms n_1 ms_1 n_2 n_3) =
    cond (decide (n_3 < n_2)) (tr17a os hs sp tl th ms n_1 ms_1 n_2 n_3) (some (.ext 1, s17a os hs sp tl th ms n_1 ms_1 n_2 n_3)) := by kernel_rfl
theorem step17a (os : List (List AV)) (hs : List (List AV)) (sp : Int) (tl : Int) (th : Int) (ms : List (List AV)) (n_1 : Int) (ms_1 : List (List AV)) (n_2 : Int) (n_3 : Int) (hd : df17a os hs sp tl th ms n_1 ms_1 n_2 n_3 = true) : tr17a os hs sp tl th ms n_1 ms_1 n_2 n_3 = cond (ex17a os hs sp tl th ms n_1 ms_1 n_2 n_3) (some (q17a os hs sp tl th ms n_1 ms_1 n_2 n_3)) (some (.nrm, s17a os hs sp tl th ms n_1 ms_1 n_2 (IntKind.i64.wrap (n_3 + 1)))) := by
  unfold df17a at hd
  unfold ex17a q17a q17a_0 tr17a
  generalize (inb n_3 ms_1.length) = t0 at *
  generalize (okS os && hs.length.ble 9223372036854775807) = t1 at *
  generalize (!hasB os hs (cU (ms_1.getD n_3.toNat [])) (cV (ms_1.getD n_3.toNat []))) = t2 at *
  generalize (!spB (c2 (ms_1.getD n_3.toNat [])) (c3 (ms_1.getD n_3.toNat [])) 2000) = t3 at *
  cases t0 <;> cases t1 <;> cases t2 <;> cases t3 <;> first | rfl | (cases hd)
theorem lok17a {st : St} {outs : List (Bool × Ex × St)} {e : Ex} {s : St} {lo : Nat} (hlo : lo ≤ st.nx) (hl : l17a st = some outs) (hch : Chosen outs e s) (hz : lo = 0) :
    ∃ keep nb, lo ≤ nb ∧ LB Try.prog Sk (ro 17) L17 lp17a [false, true, false, true, true, true] keep nb st e s := by
  unfold l17a at hl
  split at hl
  · rename_i os hs sp tl th ms n_1 ms_1 n_2 hno
    cases hl
    have hno := normV_norm hno
    refine LB_forG (n := (N17a os hs sp tl th ms n_1 ms_1 n_2)) (g := g17a os hs sp tl th ms n_1 ms_1 n_2) (stI := fun k => st17a os hs sp tl th ms n_1 ms_1 n_2 k) (ex := e17a os hs sp tl th ms n_1 ms_1 n_2) (out := (fun k => ou17a os hs sp tl th ms n_1 ms_1 n_2 k)) (fin := (.ext 1, st17a os hs sp tl th ms n_1 ms_1 n_2 (N17a os hs sp tl th ms n_1 ms_1 n_2))) hno (Nat.le_trans (Nat.le_of_eq hz) (Nat.zero_le _)) hch (fun k => by simp [ou17a, q17a, q17a_0]) (by simp) (fun hg => ?_)
    obtain ⟨hb, hall⟩ := Bool.and_eq_true_iff.1 hg
    have hb := of_decide_eq_true hb
    refine ⟨fun k hk => ?_, ?_⟩
    · have h1 := lt_toNat hk
      have hd := allN_at hall k hk
      have hw := wrap_succ h1 hb
      show round _ _ _ _ _ _ _ _ (s17a os hs sp tl th ms n_1 ms_1 n_2 ((k : Nat) : Int)) = _
      rw [round17a, show decide _ = true from decide_eq_true h1, cond_true, step17a _ _ _ _ _ _ _ _ _ _ hd, hw]
      rfl
    · show round _ _ _ _ _ _ _ _ (s17a os hs sp tl th ms n_1 ms_1 n_2 (((N17a os hs sp tl th ms n_1 ms_1 n_2) : Nat) : Int)) = _
      rw [round17a, show decide ((((N17a os hs sp tl th ms n_1 ms_1 n_2) : Nat) : Int) < (n_2 : Int)) = false from not_lt_toNat]
      rfl
  · cases hl
noncomputable def tr17b (os : List (List AV)) (hs : List (List AV)) (sp : Int) (tl : Int) (th : Int) (ms : List (List AV)) (n_1 : Int) (ms_1 : List (List AV)) (n_2 : Int) (n_3 : Int) : Option (Ex × St) := cond (inb n_3 ms_1.length) (cond (decide (n_3 > 0)) (cond (inb (IntKind.i64.wrap (n_3 - 1)) ms.length) (cond (decide (orderI (cU (ms.getD (IntKind.i64.wrap (n_3 - 1)).toNat [])) (cV (ms.getD (IntKind.i64.wrap (n_3 - 1)).toNat [])) (cU (ms_1.getD n_3.toNat [])) (cV (ms_1.getD n_3.toNat [])) ≥ 0)) (some (.ret, s17b os hs sp tl th ms 8 ms_1 n_2 n_3)) (some (.nrm, s17b os hs sp tl th ms n_1 ms_1 n_2 (IntKind.i64.wrap (n_3 + 1))))) (none)) (some (.nrm, s17b os hs sp tl th ms n_1 ms_1 n_2 (IntKind.i64.wrap (n_3 + 1))))) (none)
theorem round17b (os : List (List AV)) (hs : List (List AV)) (sp : Int) (tl : Int) (th : Int) (ms : List (List AV)) (n_1 : Int) (ms_1 : List (List AV)) (n_2 : Int) (n_3 : Int) : round Try.prog Sk (ro 17) L17 lp17b [false, true, false, true, true, true, true] [1, 2, 66, 67, 68] 0 (s17b os hs sp tl th ms n_1 ms_1 n_2 n_3) =
    cond (decide (n_3 < n_2)) (tr17b os hs sp tl th ms n_1 ms_1 n_2 n_3) (some (.ext 4, s17b os hs sp tl th ms n_1 ms_1 n_2 n_3)) := by kernel_rfl
theorem step17b (os : List (List AV)) (hs : List (List AV)) (sp : Int) (tl : Int) (th : Int) (ms : List (List AV)) (n_1 : Int) (ms_1 : List (List AV)) (n_2 : Int) (n_3 : Int) (hd : df17b os hs sp tl th ms n_1 ms_1 n_2 n_3 = true) : tr17b os hs sp tl th ms n_1 ms_1 n_2 n_3 = cond (ex17b os hs sp tl th ms n_1 ms_1 n_2 n_3) (some (q17b os hs sp tl th ms n_1 ms_1 n_2 n_3)) (some (.nrm, s17b os hs sp tl th ms n_1 ms_1 n_2 (IntKind.i64.wrap (n_3 + 1)))) := by
  unfold df17b at hd
  unfold ex17b q17b q17b_0 tr17b
  generalize (inb n_3 ms_1.length) = t0 at *
  generalize (decide (n_3 > 0)) = t1 at *
  generalize (inb (IntKind.i64.wrap (n_3 - 1)) ms.length) = t2 at *
  generalize (decide (orderI (cU (ms.getD (IntKind.i64.wrap (n_3 - 1)).toNat [])) (cV (ms.getD (IntKind.i64.wrap (n_3 - 1)).toNat [])) (cU (ms_1.getD n_3.toNat [])) (cV (ms_1.getD n_3.toNat [])) ≥ 0)) = t3 at *
  cases t0 <;> cases t1 <;> cases t2 <;> cases t3 <;> first | rfl | (cases hd)
theorem lok17b {st : St} {outs : List (Bool × Ex × St)} {e : Ex} {s : St} {lo : Nat} (hlo : lo ≤ st.nx) (hl : l17b st = some outs) (hch : Chosen outs e s) (hz : lo = 0) :
    ∃ keep nb, lo ≤ nb ∧ LB Try.prog Sk (ro 17) L17 lp17b [false, true, false, true, true, true, true] keep nb st e s := by
  unfold l17b at hl
  split at hl
  · rename_i os hs sp tl th ms n_1 ms_1 n_2 hno
    cases hl
    have hno := normV_norm hno
    refine LB_forG (n := (N17b os hs sp tl th ms n_1 ms_1 n_2)) (g := g17b os hs sp tl th ms n_1 ms_1 n_2) (stI := fun k => st17b os hs sp tl th ms n_1 ms_1 n_2 k) (ex := e17b os hs sp tl th ms n_1 ms_1 n_2) (out := (fun k => ou17b os hs sp tl th ms n_1 ms_1 n_2 k)) (fin := (.ext 4, st17b os hs sp tl th ms n_1 ms_1 n_2 (N17b os hs sp tl th ms n_1 ms_1 n_2))) hno (Nat.le_trans (Nat.le_of_eq hz) (Nat.zero_le _)) hch (fun k => by simp [ou17b, q17b, q17b_0]) (by simp) (fun hg => ?_)
    obtain ⟨hb, hall⟩ := Bool.and_eq_true_iff.1 hg
    have hb := of_decide_eq_true hb
    refine ⟨fun k hk => ?_, ?_⟩
    · have h1 := lt_toNat hk
      have hd := allN_at hall k hk
      have hw := wrap_succ h1 hb
      show round _ _ _ _ _ _ _ _ (s17b os hs sp tl th ms n_1 ms_1 n_2 ((k : Nat) : Int)) = _
      rw [round17b, show decide _ = true from decide_eq_true h1, cond_true, step17b _ _ _ _ _ _ _ _ _ _ hd, hw]
      rfl
    · show round _ _ _ _ _ _ _ _ (s17b os hs sp tl th ms n_1 ms_1 n_2 (((N17b os hs sp tl th ms n_1 ms_1 n_2) : Nat) : Int)) = _
      rw [round17b, show decide ((((N17b os hs sp tl th ms n_1 ms_1 n_2) : Nat) : Int) < (n_2 : Int)) = false from not_lt_toNat]
      rfl
  · cases hl
noncomputable def tr17c (os : List (List AV)) (hs : List (List AV)) (sp : Int) (tl : Int) (th : Int) (ms : List (List AV)) (n_1 : Int) (ms_1 : List (List AV)) (n_2 : Int) (n_3 : Int) : Option (Ex × St) := cond (inb n_3 ms_1.length) (cond (ms.length.ble 9223372036854775807) (cond (decide (List.foldl (loI sp (cU (ms_1.getD n_3.toNat [])) (cV (ms_1.getD n_3.toNat []))) tl ms > List.foldl (hiI sp (cU (ms_1.getD n_3.toNat [])) (cV (ms_1.getD n_3.toNat []))) th ms)) (some (.ret, s17c os hs sp tl th ms 10 ms_1 n_2 n_3)) (some (.nrm, s17c os hs sp tl th ms n_1 ms_1 n_2 (IntKind.i64.wrap (n_3 + 1))))) (none)) (none)
theorem round17c (os : List (List AV)) (hs : List (List AV)) (sp : Int) (tl : Int) (th : Int) (ms : List (List AV)) (n_1 : Int) (ms_1 : List (List AV)) (n_2 : Int) (n_3 : Int) : round Try.prog Sk (ro 17) L17 lp17c [false, true, false, true, true, true, true, true] [1, 2, 90, 91, 92] 0 (s17c os hs sp tl th ms n_1 ms_1 n_2 n_3) =
    cond (decide (n_3 < n_2)) (tr17c os hs sp tl th ms n_1 ms_1 n_2 n_3) (some (.ext 6, s17c os hs sp tl th ms n_1 ms_1 n_2 n_3)) := by kernel_rfl
theorem step17c (os : List (List AV)) (hs : List (List AV)) (sp : Int) (tl : Int) (th : Int) (ms : List (List AV)) (n_1 : Int) (ms_1 : List (List AV)) (n_2 : Int) (n_3 : Int) (hd : df17c os hs sp tl th ms n_1 ms_1 n_2 n_3 = true) : tr17c os hs sp tl th ms n_1 ms_1 n_2 n_3 = cond (ex17c os hs sp tl th ms n_1 ms_1 n_2 n_3) (some (q17c os hs sp tl th ms n_1 ms_1 n_2 n_3)) (some (.nrm, s17c os hs sp tl th ms n_1 ms_1 n_2 (IntKind.i64.wrap (n_3 + 1)))) := by
  unfold df17c at hd
  unfold ex17c q17c q17c_0 tr17c
  generalize (inb n_3 ms_1.length) = t0 at *
  generalize (ms.length.ble 9223372036854775807) = t1 at *
  generalize (decide (List.foldl (loI sp (cU (ms_1.getD n_3.toNat [])) (cV (ms_1.getD n_3.toNat []))) tl ms > List.foldl (hiI sp (cU (ms_1.getD n_3.toNat [])) (cV (ms_1.getD n_3.toNat []))) th ms)) = t2 at *
  cases t0 <;> cases t1 <;> cases t2 <;> first | rfl | (cases hd)
theorem lok17c {st : St} {outs : List (Bool × Ex × St)} {e : Ex} {s : St} {lo : Nat} (hlo : lo ≤ st.nx) (hl : l17c st = some outs) (hch : Chosen outs e s) (hz : lo = 0) :
    ∃ keep nb, lo ≤ nb ∧ LB Try.prog Sk (ro 17) L17 lp17c [false, true, false, true, true, true, true, true] keep nb st e s := by
  unfold l17c at hl
  split at hl
  · rename_i os hs sp tl th ms n_1 ms_1 n_2 hno
    cases hl
    have hno := normV_norm hno
    refine LB_forG (n := (N17c os hs sp tl th ms n_1 ms_1 n_2)) (g := g17c os hs sp tl th ms n_1 ms_1 n_2) (stI := fun k => st17c os hs sp tl th ms n_1 ms_1 n_2 k) (ex := e17c os hs sp tl th ms n_1 ms_1 n_2) (out := (fun k => ou17c os hs sp tl th ms n_1 ms_1 n_2 k)) (fin := (.ext 6, st17c os hs sp tl th ms n_1 ms_1 n_2 (N17c os hs sp tl th ms n_1 ms_1 n_2))) hno (Nat.le_trans (Nat.le_of_eq hz) (Nat.zero_le _)) hch (fun k => by simp [ou17c, q17c, q17c_0]) (by simp) (fun hg => ?_)
    obtain ⟨hb, hall⟩ := Bool.and_eq_true_iff.1 hg
    have hb := of_decide_eq_true hb
    refine ⟨fun k hk => ?_, ?_⟩
    · have h1 := lt_toNat hk
      have hd := allN_at hall k hk
      have hw := wrap_succ h1 hb
      show round _ _ _ _ _ _ _ _ (s17c os hs sp tl th ms n_1 ms_1 n_2 ((k : Nat) : Int)) = _
      rw [round17c, show decide _ = true from decide_eq_true h1, cond_true, step17c _ _ _ _ _ _ _ _ _ _ hd, hw]
      rfl
    · show round _ _ _ _ _ _ _ _ (s17c os hs sp tl th ms n_1 ms_1 n_2 (((N17c os hs sp tl th ms n_1 ms_1 n_2) : Nat) : Int)) = _
      rw [round17c, show decide ((((N17c os hs sp tl th ms n_1 ms_1 n_2) : Nat) : Int) < (n_2 : Int)) = false from not_lt_toNat]
      rfl
  · cases hl
theorem L17_ok (q : Pl) (c : Code) (hq : locate c17 q.reverse = some (.loop c)) (st : St) (outs : List (Bool × Ex × St)) (e : Ex) (s : St) (hl : L17 q st = some outs) (hch : Chosen outs e s) :
    ∃ keep nb, LB Try.prog Sk (ro 17) L17 c q keep nb st e s := by
  unfold L17 at hl
  split at hl
  · have : locate c17 ([false, true, false, true, true, true] : Pl).reverse = some (.loop lp17a) := by kernel_rfl
    rw [this] at hq
    cases hq
    obtain ⟨keep, nb, _, h⟩ := lok17a (lo := 0) (Nat.zero_le _) hl hch rfl
    exact ⟨keep, nb, h⟩
  · have : locate c17 ([false, true, false, true, true, true, true] : Pl).reverse = some (.loop lp17b) := by kernel_rfl
    rw [this] at hq
    cases hq
    obtain ⟨keep, nb, _, h⟩ := lok17b (lo := 0) (Nat.zero_le _) hl hch rfl
    exact ⟨keep, nb, h⟩
  · have : locate c17 ([false, true, false, true, true, true, true, true] : Pl).reverse = some (.loop lp17c) := by kernel_rfl
    rw [this] at hq
    cases hq
    obtain ⟨keep, nb, _, h⟩ := lok17c (lo := 0) (Nat.zero_le _) hl hch rfl
    exact ⟨keep, nb, h⟩
  · cases hl
theorem eq17 (os hs ms : List (List AV)) (sp tl th : Int) : evF Try.prog Sk (ro 17) L17 Try.f17 [.agg [.rs 32 os, .rs 71 hs, .i .i64 sp, .i .i64 tl, .i .i64 th, .rs 46 ms]] =
    cond (okS os) (cond (outW os != 0) (some (.i .i64 (outW os))) (cond (decide ((↑hs.length : Int) > 6)) (some (.i .i64 3)) (cond (hs.length.ble 9223372036854775807) (cond (anyN (ex64a hs) hs.length) (some (.i .i64 1)) (cond (!inB sp 0 1000) (some (.i .i64 1)) (cond (!spB tl th 2000) (some (.i .i64 1)) (cond (decide ((↑ms.length : Int) > 40)) (some (.i .i64 3)) (cond (g17a os hs sp tl th ms 0 ms (↑ms.length : Int) && anyN (e17a os hs sp tl th ms 0 ms (↑ms.length : Int)) (N17a os hs sp tl th ms 0 ms (↑ms.length : Int))) (some (.i .i64 (bif !hasB os hs (cU (ms.getD (↑(firstN (e17a os hs sp tl th ms 0 ms (↑ms.length : Int)) (N17a os hs sp tl th ms 0 ms (↑ms.length : Int))) : Int).toNat [])) (cV (ms.getD (↑(firstN (e17a os hs sp tl th ms 0 ms (↑ms.length : Int)) (N17a os hs sp tl th ms 0 ms (↑ms.length : Int))) : Int).toNat [])) then 7 else 1))) (cond (g17a os hs sp tl th ms 0 ms (↑ms.length : Int)) (cond (g17b os hs sp tl th ms 0 ms (↑ms.length : Int) && anyN (e17b os hs sp tl th ms 0 ms (↑ms.length : Int)) (N17b os hs sp tl th ms 0 ms (↑ms.length : Int))) (some (.i .i64 8)) (cond (g17b os hs sp tl th ms 0 ms (↑ms.length : Int)) (cond (g17c os hs sp tl th ms 0 ms (↑ms.length : Int) && anyN (e17c os hs sp tl th ms 0 ms (↑ms.length : Int)) (N17c os hs sp tl th ms 0 ms (↑ms.length : Int))) (some (.i .i64 10)) (cond (g17c os hs sp tl th ms 0 ms (↑ms.length : Int)) (some (.i .i64 0)) (none))) (none))) (none))))))) (none)))) (none) := by kernel_rfl
end Go.Proofs.Yteclfchlejocmaa

set_option maxRecDepth 100000
set_option linter.unusedVariables false
namespace Go.Proofs.Yteclfchlejocmaa
open Go Go.Ev

/-! ### thatchref07.Check -/
noncomputable def c18 : Code := match Try.f18.body with | some c => c | _ => .skip
noncomputable def s18a (os : List (List AV)) (hs : List (List AV)) (sp : Int) (tl : Int) (th : Int) (ms : List (List AV)) (n_1 : Int) (n_2 : Int) : St :=
  { t := [(1, .rp [.sl 32, .sl 71, .int .i64, .int .i64, .int .i64, .sl 46] [.rs 32 os, .rs 71 hs, .i .i64 sp, .i .i64 tl, .i .i64 th, .rs 46 ms] 0), (2, .i .i64 n_1), (4, .i .i64 n_2)], m := [], nx := 0, nt := 114 }
noncomputable def lp18a : Code := loopAt c18 [true, true, true, true, false, true, false]
noncomputable def ex18a (os : List (List AV)) (hs : List (List AV)) (sp : Int) (tl : Int) (th : Int) (ms : List (List AV)) (n_1 : Int) (n_2 : Int) : Bool := (decide (cU (hs.getD n_2.toNat []) ≥ c2 (hs.getD n_2.toNat []))) || (decide (cV (hs.getD n_2.toNat []) ≥ c3 (hs.getD n_2.toNat [])))
noncomputable def df18a (os : List (List AV)) (hs : List (List AV)) (sp : Int) (tl : Int) (th : Int) (ms : List (List AV)) (n_1 : Int) (n_2 : Int) : Bool := inb n_2 hs.length
noncomputable def q18a_0 (os : List (List AV)) (hs : List (List AV)) (sp : Int) (tl : Int) (th : Int) (ms : List (List AV)) (n_1 : Int) (n_2 : Int) : Ex × St := (.ret, s18a os hs sp tl th ms 1 n_2)
noncomputable def q18a (os : List (List AV)) (hs : List (List AV)) (sp : Int) (tl : Int) (th : Int) (ms : List (List AV)) (n_1 : Int) (n_2 : Int) : Ex × St := q18a_0 os hs sp tl th ms n_1 n_2
noncomputable def e18a (os : List (List AV)) (hs : List (List AV)) (sp : Int) (tl : Int) (th : Int) (ms : List (List AV)) (n_1 : Int) (k : Nat) : Bool := ex18a os hs sp tl th ms n_1 ((k : Nat) : Int)
noncomputable def d18a (os : List (List AV)) (hs : List (List AV)) (sp : Int) (tl : Int) (th : Int) (ms : List (List AV)) (n_1 : Int) (k : Nat) : Bool := df18a os hs sp tl th ms n_1 ((k : Nat) : Int)
noncomputable def st18a (os : List (List AV)) (hs : List (List AV)) (sp : Int) (tl : Int) (th : Int) (ms : List (List AV)) (n_1 : Int) (k : Nat) : St := s18a os hs sp tl th ms n_1 ((k : Nat) : Int)
noncomputable def ou18a (os : List (List AV)) (hs : List (List AV)) (sp : Int) (tl : Int) (th : Int) (ms : List (List AV)) (n_1 : Int) (k : Nat) : Ex × St := q18a os hs sp tl th ms n_1 ((k : Nat) : Int)
noncomputable def N18a (os : List (List AV)) (hs : List (List AV)) (sp : Int) (tl : Int) (th : Int) (ms : List (List AV)) (n_1 : Int) : Nat := ((↑hs.length : Int) : Int).toNat
noncomputable def g18a (os : List (List AV)) (hs : List (List AV)) (sp : Int) (tl : Int) (th : Int) (ms : List (List AV)) (n_1 : Int) : Bool := decide (((↑hs.length : Int) : Int) ≤ 9223372036854775807) && allN (d18a os hs sp tl th ms n_1) (N18a os hs sp tl th ms n_1)
noncomputable def l18a (st : St) : Option (List (Bool × Ex × St)) := match normV Try.prog [1, 2, 4] 0 st with
  | some ([.rp [.sl 32, .sl 71, .int .i64, .int .i64, .int .i64, .sl 46] [.rs 32 os, .rs 71 hs, .i .i64 sp, .i .i64 tl, .i .i64 th, .rs 46 ms] 0, .i .i64 n_1, .i .i64 (.ofNat 0)], [], 114) => some [(g18a os hs sp tl th ms n_1 && anyN (e18a os hs sp tl th ms n_1) (N18a os hs sp tl th ms n_1), .ret, (q18a_0 os hs sp tl th ms n_1 (((firstN (e18a os hs sp tl th ms n_1) (N18a os hs sp tl th ms n_1)) : Nat) : Int)).2), (g18a os hs sp tl th ms n_1, .ext 0, st18a os hs sp tl th ms n_1 (N18a os hs sp tl th ms n_1))]
  | _ => none
noncomputable def s18b (os : List (List AV)) (hs : List (List AV)) (sp : Int) (tl : Int) (th : Int) (ms : List (List AV)) (n_1 : Int) (n_2 : Int) : St :=
  { t := [(1, .rp [.sl 32, .sl 71, .int .i64, .int .i64, .int .i64, .sl 46] [.rs 32 os, .rs 71 hs, .i .i64 sp, .i .i64 tl, .i .i64 th, .rs 46 ms] 0), (2, .i .i64 n_1), (6, .i .i64 n_2)], m := [], nx := 0, nt := 114 }
noncomputable def lp18b : Code := loopAt c18 [true, true, true, true, true, true, true, false, true, false]
noncomputable def ex18b (os : List (List AV)) (hs : List (List AV)) (sp : Int) (tl : Int) (th : Int) (ms : List (List AV)) (n_1 : Int) (n_2 : Int) : Bool := (!onB os hs (cU (ms.getD n_2.toNat [])) (cV (ms.getD n_2.toNat []))) || (!spB (c2 (ms.getD n_2.toNat [])) (c3 (ms.getD n_2.toNat [])) 2000)
noncomputable def df18b (os : List (List AV)) (hs : List (List AV)) (sp : Int) (tl : Int) (th : Int) (ms : List (List AV)) (n_1 : Int) (n_2 : Int) : Bool := (inb n_2 ms.length) && ((os.length.ble 9223372036854775807 && hs.length.ble 9223372036854775807) && ((!onB os hs (cU (ms.getD n_2.toNat [])) (cV (ms.getD n_2.toNat []))) || (inb n_2 ms.length)))
noncomputable def q18b_0 (os : List (List AV)) (hs : List (List AV)) (sp : Int) (tl : Int) (th : Int) (ms : List (List AV)) (n_1 : Int) (n_2 : Int) : Ex × St := (.ret, s18b os hs sp tl th ms (cond (!onB os hs (cU (ms.getD n_2.toNat [])) (cV (ms.getD n_2.toNat []))) (7) (1)) n_2)
noncomputable def q18b (os : List (List AV)) (hs : List (List AV)) (sp : Int) (tl : Int) (th : Int) (ms : List (List AV)) (n_1 : Int) (n_2 : Int) : Ex × St := q18b_0 os hs sp tl th ms n_1 n_2
noncomputable def e18b (os : List (List AV)) (hs : List (List AV)) (sp : Int) (tl : Int) (th : Int) (ms : List (List AV)) (n_1 : Int) (k : Nat) : Bool := ex18b os hs sp tl th ms n_1 ((k : Nat) : Int)
noncomputable def d18b (os : List (List AV)) (hs : List (List AV)) (sp : Int) (tl : Int) (th : Int) (ms : List (List AV)) (n_1 : Int) (k : Nat) : Bool := df18b os hs sp tl th ms n_1 ((k : Nat) : Int)
noncomputable def st18b (os : List (List AV)) (hs : List (List AV)) (sp : Int) (tl : Int) (th : Int) (ms : List (List AV)) (n_1 : Int) (k : Nat) : St := s18b os hs sp tl th ms n_1 ((k : Nat) : Int)
noncomputable def ou18b (os : List (List AV)) (hs : List (List AV)) (sp : Int) (tl : Int) (th : Int) (ms : List (List AV)) (n_1 : Int) (k : Nat) : Ex × St := q18b os hs sp tl th ms n_1 ((k : Nat) : Int)
noncomputable def N18b (os : List (List AV)) (hs : List (List AV)) (sp : Int) (tl : Int) (th : Int) (ms : List (List AV)) (n_1 : Int) : Nat := ((↑ms.length : Int) : Int).toNat
noncomputable def g18b (os : List (List AV)) (hs : List (List AV)) (sp : Int) (tl : Int) (th : Int) (ms : List (List AV)) (n_1 : Int) : Bool := decide (((↑ms.length : Int) : Int) ≤ 9223372036854775807) && allN (d18b os hs sp tl th ms n_1) (N18b os hs sp tl th ms n_1)
noncomputable def l18b (st : St) : Option (List (Bool × Ex × St)) := match normV Try.prog [1, 2, 6] 0 st with
  | some ([.rp [.sl 32, .sl 71, .int .i64, .int .i64, .int .i64, .sl 46] [.rs 32 os, .rs 71 hs, .i .i64 sp, .i .i64 tl, .i .i64 th, .rs 46 ms] 0, .i .i64 n_1, .i .i64 (.ofNat 0)], [], 114) => some [(g18b os hs sp tl th ms n_1 && anyN (e18b os hs sp tl th ms n_1) (N18b os hs sp tl th ms n_1), .ret, (q18b_0 os hs sp tl th ms n_1 (((firstN (e18b os hs sp tl th ms n_1) (N18b os hs sp tl th ms n_1)) : Nat) : Int)).2), (g18b os hs sp tl th ms n_1, .ext 2, st18b os hs sp tl th ms n_1 (N18b os hs sp tl th ms n_1))]
  | _ => none
noncomputable def s18c (os : List (List AV)) (hs : List (List AV)) (sp : Int) (tl : Int) (th : Int) (ms : List (List AV)) (n_1 : Int) (n_2 : Int) : St :=
  { t := [(1, .rp [.sl 32, .sl 71, .int .i64, .int .i64, .int .i64, .sl 46] [.rs 32 os, .rs 71 hs, .i .i64 sp, .i .i64 tl, .i .i64 th, .rs 46 ms] 0), (2, .i .i64 n_1), (7, .i .i64 n_2)], m := [], nx := 0, nt := 114 }
noncomputable def lp18c : Code := loopAt c18 [true, true, true, true, true, true, true, true, false, true, false]
noncomputable def ex18c (os : List (List AV)) (hs : List (List AV)) (sp : Int) (tl : Int) (th : Int) (ms : List (List AV)) (n_1 : Int) (n_2 : Int) : Bool := !behindB (cU (ms.getD n_2.toNat [])) (cV (ms.getD n_2.toNat [])) (cU (ms.getD (IntKind.i64.wrap (n_2 - 1)).toNat [])) (cV (ms.getD (IntKind.i64.wrap (n_2 - 1)).toNat []))
noncomputable def df18c (os : List (List AV)) (hs : List (List AV)) (sp : Int) (tl : Int) (th : Int) (ms : List (List AV)) (n_1 : Int) (n_2 : Int) : Bool := (inb n_2 ms.length) && (inb (IntKind.i64.wrap (n_2 - 1)) ms.length)
noncomputable def q18c_0 (os : List (List AV)) (hs : List (List AV)) (sp : Int) (tl : Int) (th : Int) (ms : List (List AV)) (n_1 : Int) (n_2 : Int) : Ex × St := (.ret, s18c os hs sp tl th ms 8 n_2)
noncomputable def q18c (os : List (List AV)) (hs : List (List AV)) (sp : Int) (tl : Int) (th : Int) (ms : List (List AV)) (n_1 : Int) (n_2 : Int) : Ex × St := q18c_0 os hs sp tl th ms n_1 n_2
noncomputable def e18c (os : List (List AV)) (hs : List (List AV)) (sp : Int) (tl : Int) (th : Int) (ms : List (List AV)) (n_1 : Int) (k : Nat) : Bool := ex18c os hs sp tl th ms n_1 ((k + 1 : Nat) : Int)
noncomputable def d18c (os : List (List AV)) (hs : List (List AV)) (sp : Int) (tl : Int) (th : Int) (ms : List (List AV)) (n_1 : Int) (k : Nat) : Bool := df18c os hs sp tl th ms n_1 ((k + 1 : Nat) : Int)
noncomputable def st18c (os : List (List AV)) (hs : List (List AV)) (sp : Int) (tl : Int) (th : Int) (ms : List (List AV)) (n_1 : Int) (k : Nat) : St := s18c os hs sp tl th ms n_1 ((k + 1 : Nat) : Int)
noncomputable def ou18c (os : List (List AV)) (hs : List (List AV)) (sp : Int) (tl : Int) (th : Int) (ms : List (List AV)) (n_1 : Int) (k : Nat) : Ex × St := q18c os hs sp tl th ms n_1 ((k + 1 : Nat) : Int)
noncomputable def N18c (os : List (List AV)) (hs : List (List AV)) (sp : Int) (tl : Int) (th : Int) (ms : List (List AV)) (n_1 : Int) : Nat := (((↑ms.length : Int) : Int).toNat - 1)
noncomputable def g18c (os : List (List AV)) (hs : List (List AV)) (sp : Int) (tl : Int) (th : Int) (ms : List (List AV)) (n_1 : Int) : Bool := decide (((↑ms.length : Int) : Int) ≤ 9223372036854775807) && allN (d18c os hs sp tl th ms n_1) (N18c os hs sp tl th ms n_1)
noncomputable def l18c (st : St) : Option (List (Bool × Ex × St)) := match normV Try.prog [1, 2, 7] 0 st with
  | some ([.rp [.sl 32, .sl 71, .int .i64, .int .i64, .int .i64, .sl 46] [.rs 32 os, .rs 71 hs, .i .i64 sp, .i .i64 tl, .i .i64 th, .rs 46 ms] 0, .i .i64 n_1, .i .i64 (.ofNat 1)], [], 114) => some [(g18c os hs sp tl th ms n_1 && anyN (e18c os hs sp tl th ms n_1) (N18c os hs sp tl th ms n_1), .ret, (q18c_0 os hs sp tl th ms n_1 (((firstN (e18c os hs sp tl th ms n_1) (N18c os hs sp tl th ms n_1)) + 1 : Nat) : Int)).2), (g18c os hs sp tl th ms n_1, .ext 4, st18c os hs sp tl th ms n_1 (N18c os hs sp tl th ms n_1))]
  | _ => none
noncomputable def L18 : LSpec := fun p st => match p with
  | [false, true, false, true, true, true, true] => l18a st
  | [false, true, false, true, true, true, true, true, true, true] => l18b st
  | [false, true, false, true, true, true, true, true, true, true, true] => l18c st
  | _ => none
noncomputable def tr18a (os : List (List AV)) (hs : List (List AV)) (sp : Int) (tl : Int) (th : Int) (ms : List (List AV)) (n_1 : Int) (n_2 : Int) : Option (Ex × St) := cond (inb n_2 hs.length) (cond (decide (cU (hs.getD n_2.toNat []) ≥ c2 (hs.getD n_2.toNat []))) (some (.ret, s18a os hs sp tl th ms 1 n_2)) (cond (decide (cV (hs.getD n_2.toNat []) ≥ c3 (hs.getD n_2.toNat []))) (some (.ret, s18a os hs sp tl th ms 1 n_2)) (some (.nrm, s18a os hs sp tl th ms n_1 (IntKind.i64.wrap (n_2 + 1)))))) (none)
theorem round18a (os : List (List AV)) (hs : List (List AV)) (sp : Int) (tl : Int) (th : Int) (ms : List (List AV)) (n_1 : Int) (n_2 : Int) : round Try.prog Sk (ro 18) L18 lp18a [false, true, false, true, true, true, true] [1, 2, 4] 0 (s18a os hs sp tl th ms n_1 n_2) =
    cond (decide (n_2 < (↑hs.length : Int))) (tr18a os hs sp tl th ms n_1 n_2) (some (.ext 0, s18a os hs sp tl th ms n_1 n_2)) := by kernel_rfl
theorem step18a (os : List (List AV)) (hs : List (List AV)) (sp : Int) (tl : Int) (th : Int) (ms : List (List AV)) (n_1 : Int) (n_2 : Int) (hd : df18a os hs sp tl th ms n_1 n_2 = true) : tr18a os hs sp tl th ms n_1 n_2 = cond (ex18a os hs sp tl th ms n_1 n_2) (some (q18a os hs sp tl th ms n_1 n_2)) (some (.nrm, s18a os hs sp tl th ms n_1 (IntKind.i64.wrap (n_2 + 1)))) := by
  unfold df18a at hd
  unfold ex18a q18a q18a_0 tr18a
  generalize (inb n_2 hs.length) = t0 at *
  generalize (decide (cU (hs.getD n_2.toNat []) ≥ c2 (hs.getD n_2.toNat []))) = t1 at *
  generalize (decide (cV (hs.getD n_2.toNat []) ≥ c3 (hs.getD n_2.toNat []))) = t2 at *
  cases t0 <;> cases t1 <;> cases t2 <;> first | rfl | (cases hd)
theorem lok18a {st : St} {outs : List (Bool × Ex × St)} {e : Ex} {s : St} {lo : Nat} (hlo : lo ≤ st.nx) (hl : l18a st = some outs) (hch : Chosen outs e s) (hz : lo = 0) :
    ∃ keep nb, lo ≤ nb ∧ LB Try.prog Sk (ro 18) L18 lp18a [false, true, false, true, true, true, true] keep nb st e s := by
  unfold l18a at hl
  split at hl
  · rename_i os hs sp tl th ms n_1 hno
    cases hl
    have hno := normV_norm hno
    refine LB_forG (n := (N18a os hs sp tl th ms n_1)) (g := g18a os hs sp tl th ms n_1) (stI := fun k => st18a os hs sp tl th ms n_1 k) (ex := e18a os hs sp tl th ms n_1) (out := (fun k => ou18a os hs sp tl th ms n_1 k)) (fin := (.ext 0, st18a os hs sp tl th ms n_1 (N18a os hs sp tl th ms n_1))) hno (Nat.le_trans (Nat.le_of_eq hz) (Nat.zero_le _)) hch (fun k => by simp [ou18a, q18a, q18a_0]) (by simp) (fun hg => ?_)
    obtain ⟨hb, hall⟩ := Bool.and_eq_true_iff.1 hg
    have hb := of_decide_eq_true hb
    refine ⟨fun k hk => ?_, ?_⟩
    · have h1 := lt_toNat hk
      have hd := allN_at hall k hk
      have hw := wrap_succ h1 hb
      show round _ _ _ _ _ _ _ _ (s18a os hs sp tl th ms n_1 ((k : Nat) : Int)) = _
      rw [round18a, show decide _ = true from decide_eq_true h1, cond_true, step18a _ _ _ _ _ _ _ _ hd, hw]
      rfl
    · show round _ _ _ _ _ _ _ _ (s18a os hs sp tl th ms n_1 (((N18a os hs sp tl th ms n_1) : Nat) : Int)) = _
      rw [round18a, show decide ((((N18a os hs sp tl th ms n_1) : Nat) : Int) < ((↑hs.length : Int) : Int)) = false from not_lt_toNat]
      rfl
  · cases hl
noncomputable def tr18b (os : List (List AV)) (hs : List (List AV)) (sp : Int) (tl : Int) (th : Int) (ms : List (List AV)) (n_1 : Int) (n_2 : Int) : Option (Ex × St) := cond (inb n_2 ms.length) (cond (os.length.ble 9223372036854775807 && hs.length.ble 9223372036854775807) (cond (!onB os hs (cU (ms.getD n_2.toNat [])) (cV (ms.getD n_2.toNat []))) (some (.ret, s18b os hs sp tl th ms 7 n_2)) (cond (inb n_2 ms.length) (cond (!spB (c2 (ms.getD n_2.toNat [])) (c3 (ms.getD n_2.toNat [])) 2000) (some (.ret, s18b os hs sp tl th ms 1 n_2)) (some (.nrm, s18b os hs sp tl th ms n_1 (IntKind.i64.wrap (n_2 + 1))))) (none))) (none)) (none)
theorem round18b (os : List (List AV)) (hs : List (List AV)) (sp : Int) (tl : Int) (th : Int) (ms : List (List AV)) (n_1 : Int) (n_2 : Int) : round Try.prog Sk (ro 18) L18 lp18b [false, true, false, true, true, true, true, true, true, true] [1, 2, 6] 0 (s18b os hs sp tl th ms n_1 n_2) =
    cond (decide (n_2 < (↑ms.length : Int))) (tr18b os hs sp tl th ms n_1 n_2) (some (.ext 2, s18b os hs sp tl th ms n_1 n_2)) := by kernel_rfl
theorem step18b (os : List (List AV)) (hs : List (List AV)) (sp : Int) (tl : Int) (th : Int) (ms : List (List AV)) (n_1 : Int) (n_2 : Int) (hd : df18b os hs sp tl th ms n_1 n_2 = true) : tr18b os hs sp tl th ms n_1 n_2 = cond (ex18b os hs sp tl th ms n_1 n_2) (some (q18b os hs sp tl th ms n_1 n_2)) (some (.nrm, s18b os hs sp tl th ms n_1 (IntKind.i64.wrap (n_2 + 1)))) := by
  unfold df18b at hd
  unfold ex18b q18b q18b_0 tr18b
  generalize (inb n_2 ms.length) = t0 at *
  generalize (os.length.ble 9223372036854775807 && hs.length.ble 9223372036854775807) = t1 at *
  generalize (!onB os hs (cU (ms.getD n_2.toNat [])) (cV (ms.getD n_2.toNat []))) = t2 at *
  generalize (!spB (c2 (ms.getD n_2.toNat [])) (c3 (ms.getD n_2.toNat [])) 2000) = t3 at *
  cases t0 <;> cases t1 <;> cases t2 <;> cases t3 <;> first | rfl | (cases hd)
theorem lok18b {st : St} {outs : List (Bool × Ex × St)} {e : Ex} {s : St} {lo : Nat} (hlo : lo ≤ st.nx) (hl : l18b st = some outs) (hch : Chosen outs e s) (hz : lo = 0) :
    ∃ keep nb, lo ≤ nb ∧ LB Try.prog Sk (ro 18) L18 lp18b [false, true, false, true, true, true, true, true, true, true] keep nb st e s := by
  unfold l18b at hl
  split at hl
  · rename_i os hs sp tl th ms n_1 hno
    cases hl
    have hno := normV_norm hno
    refine LB_forG (n := (N18b os hs sp tl th ms n_1)) (g := g18b os hs sp tl th ms n_1) (stI := fun k => st18b os hs sp tl th ms n_1 k) (ex := e18b os hs sp tl th ms n_1) (out := (fun k => ou18b os hs sp tl th ms n_1 k)) (fin := (.ext 2, st18b os hs sp tl th ms n_1 (N18b os hs sp tl th ms n_1))) hno (Nat.le_trans (Nat.le_of_eq hz) (Nat.zero_le _)) hch (fun k => by simp [ou18b, q18b, q18b_0]) (by simp) (fun hg => ?_)
    obtain ⟨hb, hall⟩ := Bool.and_eq_true_iff.1 hg
    have hb := of_decide_eq_true hb
    refine ⟨fun k hk => ?_, ?_⟩
    · have h1 := lt_toNat hk
      have hd := allN_at hall k hk
      have hw := wrap_succ h1 hb
      show round _ _ _ _ _ _ _ _ (s18b os hs sp tl th ms n_1 ((k : Nat) : Int)) = _
      rw [round18b, show decide _ = true from decide_eq_true h1, cond_true, step18b _ _ _ _ _ _ _ _ hd, hw]
      rfl
    · show round _ _ _ _ _ _ _ _ (s18b os hs sp tl th ms n_1 (((N18b os hs sp tl th ms n_1) : Nat) : Int)) = _
      rw [round18b, show decide ((((N18b os hs sp tl th ms n_1) : Nat) : Int) < ((↑ms.length : Int) : Int)) = false from not_lt_toNat]
      rfl
  · cases hl
noncomputable def tr18c (os : List (List AV)) (hs : List (List AV)) (sp : Int) (tl : Int) (th : Int) (ms : List (List AV)) (n_1 : Int) (n_2 : Int) : Option (Ex × St) := cond (inb n_2 ms.length) (cond (inb (IntKind.i64.wrap (n_2 - 1)) ms.length) (cond (!behindB (cU (ms.getD n_2.toNat [])) (cV (ms.getD n_2.toNat [])) (cU (ms.getD (IntKind.i64.wrap (n_2 - 1)).toNat [])) (cV (ms.getD (IntKind.i64.wrap (n_2 - 1)).toNat []))) (some (.ret, s18c os hs sp tl th ms 8 n_2)) (some (.nrm, s18c os hs sp tl th ms n_1 (IntKind.i64.wrap (n_2 + 1))))) (none)) (none)
theorem round18c (os : List (List AV)) (hs : List (List AV)) (sp : Int) (tl : Int) (th : Int) (ms : List (List AV)) (n_1 : Int) (n_2 : Int) : round Try.prog Sk (ro 18) L18 lp18c [false, true, false, true, true, true, true, true, true, true, true] [1, 2, 7] 0 (s18c os hs sp tl th ms n_1 n_2) =
    cond (decide (n_2 < (↑ms.length : Int))) (tr18c os hs sp tl th ms n_1 n_2) (some (.ext 4, s18c os hs sp tl th ms n_1 n_2)) := by kernel_rfl
theorem step18c (os : List (List AV)) (hs : List (List AV)) (sp : Int) (tl : Int) (th : Int) (ms : List (List AV)) (n_1 : Int) (n_2 : Int) (hd : df18c os hs sp tl th ms n_1 n_2 = true) : tr18c os hs sp tl th ms n_1 n_2 = cond (ex18c os hs sp tl th ms n_1 n_2) (some (q18c os hs sp tl th ms n_1 n_2)) (some (.nrm, s18c os hs sp tl th ms n_1 (IntKind.i64.wrap (n_2 + 1)))) := by
  unfold df18c at hd
  unfold ex18c q18c q18c_0 tr18c
  generalize (inb n_2 ms.length) = t0 at *
  generalize (inb (IntKind.i64.wrap (n_2 - 1)) ms.length) = t1 at *
  generalize (!behindB (cU (ms.getD n_2.toNat [])) (cV (ms.getD n_2.toNat [])) (cU (ms.getD (IntKind.i64.wrap (n_2 - 1)).toNat [])) (cV (ms.getD (IntKind.i64.wrap (n_2 - 1)).toNat []))) = t2 at *
  cases t0 <;> cases t1 <;> cases t2 <;> first | rfl | (cases hd)
theorem lok18c {st : St} {outs : List (Bool × Ex × St)} {e : Ex} {s : St} {lo : Nat} (hlo : lo ≤ st.nx) (hl : l18c st = some outs) (hch : Chosen outs e s) (hz : lo = 0) :
    ∃ keep nb, lo ≤ nb ∧ LB Try.prog Sk (ro 18) L18 lp18c [false, true, false, true, true, true, true, true, true, true, true] keep nb st e s := by
  unfold l18c at hl
  split at hl
  · rename_i os hs sp tl th ms n_1 hno
    cases hl
    have hno := normV_norm hno
    refine LB_forG (n := (N18c os hs sp tl th ms n_1)) (g := g18c os hs sp tl th ms n_1) (stI := fun k => st18c os hs sp tl th ms n_1 k) (ex := e18c os hs sp tl th ms n_1) (out := (fun k => ou18c os hs sp tl th ms n_1 k)) (fin := (.ext 4, st18c os hs sp tl th ms n_1 (N18c os hs sp tl th ms n_1))) hno (Nat.le_trans (Nat.le_of_eq hz) (Nat.zero_le _)) hch (fun k => by simp [ou18c, q18c, q18c_0]) (by simp) (fun hg => ?_)
    obtain ⟨hb, hall⟩ := Bool.and_eq_true_iff.1 hg
    have hb := of_decide_eq_true hb
    refine ⟨fun k hk => ?_, ?_⟩
    · have h1 := lt_toNat_s hk
      have hd := allN_at hall k hk
      have hw := wrap_succ h1 hb
      show round _ _ _ _ _ _ _ _ (s18c os hs sp tl th ms n_1 ((k + 1 : Nat) : Int)) = _
      rw [round18c, show decide _ = true from decide_eq_true h1, cond_true, step18c _ _ _ _ _ _ _ _ hd, hw]
      rfl
    · show round _ _ _ _ _ _ _ _ (s18c os hs sp tl th ms n_1 (((N18c os hs sp tl th ms n_1) + 1 : Nat) : Int)) = _
      rw [round18c, show decide ((((N18c os hs sp tl th ms n_1) + 1 : Nat) : Int) < ((↑ms.length : Int) : Int)) = false from not_lt_toNat_s]
      rfl
  · cases hl
theorem L18_ok (q : Pl) (c : Code) (hq : locate c18 q.reverse = some (.loop c)) (st : St) (outs : List (Bool × Ex × St)) (e : Ex) (s : St) (hl : L18 q st = some outs) (hch : Chosen outs e s) :
    ∃ keep nb, LB Try.prog Sk (ro 18) L18 c q keep nb st e s := by
  unfold L18 at hl
  split at hl
  · have : locate c18 ([false, true, false, true, true, true, true] : Pl).reverse = some (.loop lp18a) := by kernel_rfl
    rw [this] at hq
    cases hq
    obtain ⟨keep, nb, _, h⟩ := lok18a (lo := 0) (Nat.zero_le _) hl hch rfl
    exact ⟨keep, nb, h⟩
  · have : locate c18 ([false, true, false, true, true, true, true, true, true, true] : Pl).reverse = some (.loop lp18b) := by kernel_rfl
    rw [this] at hq
    cases hq
    obtain ⟨keep, nb, _, h⟩ := lok18b (lo := 0) (Nat.zero_le _) hl hch rfl
    exact ⟨keep, nb, h⟩
  · have : locate c18 ([false, true, false, true, true, true, true, true, true, true, true] : Pl).reverse = some (.loop lp18c) := by kernel_rfl
    rw [this] at hq
    cases hq
    obtain ⟨keep, nb, _, h⟩ := lok18c (lo := 0) (Nat.zero_le _) hl hch rfl
    exact ⟨keep, nb, h⟩
  · cases hl
theorem eq18 (os hs ms : List (List AV)) (sp tl th : Int) : evF Try.prog Sk (ro 18) L18 Try.f18 [.agg [.rs 32 os, .rs 71 hs, .i .i64 sp, .i .i64 tl, .i .i64 th, .rs 46 ms]] =
    cond (outR os != 0) (some (.i .i64 (outR os))) (cond (decide ((↑hs.length : Int) > 6)) (some (.i .i64 3)) (cond (g18a os hs sp tl th ms 0 && anyN (e18a os hs sp tl th ms 0) (N18a os hs sp tl th ms 0)) (some (.i .i64 1)) (cond (g18a os hs sp tl th ms 0) (cond (!inB sp 0 1000) (some (.i .i64 1)) (cond (!spB tl th 2000) (some (.i .i64 1)) (cond (decide ((↑ms.length : Int) > 40)) (some (.i .i64 3)) (cond (g18b os hs sp tl th ms 0 && anyN (e18b os hs sp tl th ms 0) (N18b os hs sp tl th ms 0)) (some (.i .i64 (bif !onB os hs (cU (ms.getD (↑(firstN (e18b os hs sp tl th ms 0) (N18b os hs sp tl th ms 0)) : Int).toNat [])) (cV (ms.getD (↑(firstN (e18b os hs sp tl th ms 0) (N18b os hs sp tl th ms 0)) : Int).toNat [])) then 7 else 1))) (cond (g18b os hs sp tl th ms 0) (cond (g18c os hs sp tl th ms 0 && anyN (e18c os hs sp tl th ms 0) (N18c os hs sp tl th ms 0)) (some (.i .i64 8)) (cond (g18c os hs sp tl th ms 0) (cond (ms.length.ble 9223372036854775807) (cond (!!anyN (clashB sp tl th ms) ms.length) (some (.i .i64 10)) (some (.i .i64 0))) (none)) (none))) (none)))))) (none)))) := by kernel_rfl
end Go.Proofs.Yteclfchlejocmaa

set_option maxRecDepth 100000
set_option linter.unusedVariables false
namespace Go.Proofs.Yteclfchlejocmaa
open Go Go.Ev

def mkW (os hs ms : List (List AV)) (i : Nat) : Bool := !hasB os hs (cU (ms.getD i [])) (cV (ms.getD i [])) || !spB (c2 (ms.getD i [])) (c3 (ms.getD i [])) 2000
def mkR (os hs ms : List (List AV)) (i : Nat) : Bool := !onB os hs (cU (ms.getD i [])) (cV (ms.getD i [])) || !spB (c2 (ms.getD i [])) (c3 (ms.getD i [])) 2000
def ordW (ms : List (List AV)) (i : Nat) : Bool := decide (i > 0) && decide (orderI (cU (ms.getD (i - 1) [])) (cV (ms.getD (i - 1) [])) (cU (ms.getD i [])) (cV (ms.getD i [])) ≥ 0)
def ordR (ms : List (List AV)) (i : Nat) : Bool := !behindB (cU (ms.getD (i + 1) [])) (cV (ms.getD (i + 1) [])) (cU (ms.getD i [])) (cV (ms.getD i []))
def bndW (sp tl th : Int) (ms : List (List AV)) (i : Nat) : Bool := decide (ms.foldl (loI sp (cU (ms.getD i [])) (cV (ms.getD i []))) tl > ms.foldl (hiI sp (cU (ms.getD i [])) (cV (ms.getD i []))) th)
def checkW (os hs ms : List (List AV)) (sp tl th : Int) : Int :=
  cond (outW os != 0) (outW os) (cond (decide (((hs.length : Nat) : Int) > 6)) 3 (cond (anyN (ex64a hs) hs.length) 1 (cond (!inB sp 0 1000) 1 (cond (!spB tl th 2000) 1 (cond (decide (((ms.length : Nat) : Int) > 40)) 3
    (cond (anyN (mkW os hs ms) ms.length) (cond (!hasB os hs (cU (ms.getD (firstN (mkW os hs ms) ms.length) [])) (cV (ms.getD (firstN (mkW os hs ms) ms.length) []))) 7 1)
    (cond (anyN (ordW ms) ms.length) 8 (cond (anyN (bndW sp tl th ms) ms.length) 10 0))))))))
def checkR (os hs ms : List (List AV)) (sp tl th : Int) : Int :=
  cond (outR os != 0) (outR os) (cond (decide (((hs.length : Nat) : Int) > 6)) 3 (cond (anyN (ex64a hs) hs.length) 1 (cond (!inB sp 0 1000) 1 (cond (!spB tl th 2000) 1 (cond (decide (((ms.length : Nat) : Int) > 40)) 3
    (cond (anyN (mkR os hs ms) ms.length) (cond (!onB os hs (cU (ms.getD (firstN (mkR os hs ms) ms.length) [])) (cV (ms.getD (firstN (mkR os hs ms) ms.length) []))) 7 1)
    (cond (anyN (ordR ms) (ms.length - 1)) 8 (cond (anyN (clashB sp tl th ms) ms.length) 10 0))))))))

theorem firstN_congr : ∀ {n : Nat} {f g : Nat → Bool}, (∀ i, i < n → f i = g i) → firstN f n = firstN g n
  | 0, _, _, _ => rfl
  | n + 1, f, g, h => by
    simp only [firstN]
    rw [h 0 (by omega), firstN_congr (f := fun i => f (i + 1)) (g := fun i => g (i + 1)) fun i hi => h (i + 1) (by omega)]
theorem con17 (os hs ms : List (List AV)) (sp tl th : Int) (ho : okS os = true) : Con Try.prog 17 [.agg [.rs 32 os, .rs 71 hs, .i .i64 sp, .i .i64 tl, .i .i64 th, .rs 46 ms]] (.i .i64 (checkW os hs ms sp tl th)) := by
  refine con_of Sk_ok mixed Try.func17 (c := c17) rfl (names 17 _ Try.func17) (lok_of L17_ok c17 [] false (locate_nil _) (by kernel_rfl)) ?_
  rw [eq17, ho]
  unfold checkW
  cases outW os != 0
  · cases h1 : decide (((hs.length : Nat) : Int) > 6)
    · have h1 := of_decide_eq_false h1
      have hb : Nat.ble hs.length 9223372036854775807 = true := by simp [Nat.ble_eq]; omega
      rw [hb]
      cases anyN (ex64a hs) hs.length
      · cases !inB sp 0 1000
        · cases !spB tl th 2000
          · cases h2 : decide (((ms.length : Nat) : Int) > 40)
            · have h2 := of_decide_eq_false h2
              have hm : Nat.ble ms.length 9223372036854775807 = true := by simp [Nat.ble_eq]; omega
              have Na : N17a os hs sp tl th ms 0 ms (ms.length : Nat) = ms.length := rfl
              have Nb : N17b os hs sp tl th ms 0 ms (ms.length : Nat) = ms.length := rfl
              have Nc : N17c os hs sp tl th ms 0 ms (ms.length : Nat) = ms.length := rfl
              have ga : g17a os hs sp tl th ms 0 ms (ms.length : Nat) = true := by
                unfold g17a
                rw [Bool.and_eq_true]
                refine ⟨le64 (by omega), allN_of fun i hi => ?_⟩
                have hi : i < ms.length := hi
                unfold d17a df17a
                rw [inb_nat hi, ho, hb]
                rfl
              have gb : g17b os hs sp tl th ms 0 ms (ms.length : Nat) = true := by
                unfold g17b
                rw [Bool.and_eq_true]
                refine ⟨le64 (by omega), allN_of fun i hi => ?_⟩
                have hi : i < ms.length := hi
                unfold d17b df17b
                rw [inb_nat hi]
                cases i with
                | zero => rfl
                | succ i =>
                  rw [show IntKind.i64.wrap (((i + 1 : Nat) : Int) - 1) = ((i : Nat) : Int) from (wrap_id (by omega) (by omega)).trans (by omega), inb_nat (show i < ms.length by omega)]
                  simp
              have gc : g17c os hs sp tl th ms 0 ms (ms.length : Nat) = true := by
                unfold g17c
                rw [Bool.and_eq_true]
                refine ⟨le64 (by omega), allN_of fun i hi => ?_⟩
                have hi : i < ms.length := hi
                unfold d17c df17c
                rw [inb_nat hi, hm]
                rfl
              have ea : ∀ i, i < ms.length → e17a os hs sp tl th ms 0 ms (ms.length : Nat) i = mkW os hs ms i := fun i hi => rfl
              have eb : anyN (e17b os hs sp tl th ms 0 ms (ms.length : Nat)) ms.length = anyN (ordW ms) ms.length := anyN_congr fun i hi => by
                unfold e17b ex17b ordW
                cases i with
                | zero => rfl
                | succ i =>
                  rw [show IntKind.i64.wrap (((i + 1 : Nat) : Int) - 1) = ((i : Nat) : Int) from (wrap_id (by omega) (by omega)).trans (by omega)]
                  simp only [Int.toNat_natCast, Nat.add_sub_cancel]
                  rw [show decide (((i + 1 : Nat) : Int) > 0) = decide (i + 1 > 0) by simp]
              have ec : anyN (e17c os hs sp tl th ms 0 ms (ms.length : Nat)) ms.length = anyN (bndW sp tl th ms) ms.length := anyN_congr fun i hi => rfl
              rw [ga, gb, gc, Na, Nb, Nc, anyN_congr ea, firstN_congr ea, eb, ec]
              cases anyN (mkW os hs ms) ms.length <;> cases anyN (ordW ms) ms.length <;> cases anyN (bndW sp tl th ms) ms.length <;> rfl
            · rfl
          · rfl
        · rfl
      · rfl
    · rfl
  · rfl
theorem outR_zero {os : List (List AV)} (h : (outR os != 0) = false) : os.length ≤ 12 := by
  have h : outR os = 0 := by simpa using h
  unfold outR at h
  cases h0 : !inB (os.length : Nat) 3 12 with
  | false => exact (inB_len h0).2
  | true =>
    rw [h0] at h
    exact absurd (show (1 : Int) = 0 from h) (by decide)
theorem con18 (os hs ms : List (List AV)) (sp tl th : Int) : Con Try.prog 18 [.agg [.rs 32 os, .rs 71 hs, .i .i64 sp, .i .i64 tl, .i .i64 th, .rs 46 ms]] (.i .i64 (checkR os hs ms sp tl th)) := by
  refine con_of Sk_ok mixed Try.func18 (c := c18) rfl (names 18 _ Try.func18) (lok_of L18_ok c18 [] false (locate_nil _) (by kernel_rfl)) ?_
  rw [eq18]
  unfold checkR
  cases h0 : outR os != 0
  · have h12 := outR_zero h0
    have hbo : Nat.ble os.length 9223372036854775807 = true := by simp [Nat.ble_eq]; omega
    cases h1 : decide (((hs.length : Nat) : Int) > 6)
    · have h1 := of_decide_eq_false h1
      have hb : Nat.ble hs.length 9223372036854775807 = true := by simp [Nat.ble_eq]; omega
      have N0 : N18a os hs sp tl th ms 0 = hs.length := rfl
      have g0 : g18a os hs sp tl th ms 0 = true := by
        unfold g18a
        rw [Bool.and_eq_true]
        exact ⟨le64 (by omega), allN_of fun i hi => inb_nat hi⟩
      have e0 : anyN (e18a os hs sp tl th ms 0) hs.length = anyN (ex64a hs) hs.length := anyN_congr fun i hi => rfl
      rw [g0, N0, e0]
      cases anyN (ex64a hs) hs.length
      · cases !inB sp 0 1000
        · cases !spB tl th 2000
          · cases h2 : decide (((ms.length : Nat) : Int) > 40)
            · have h2 := of_decide_eq_false h2
              have hm : Nat.ble ms.length 9223372036854775807 = true := by simp [Nat.ble_eq]; omega
              have Nb : N18b os hs sp tl th ms 0 = ms.length := rfl
              have Nc : N18c os hs sp tl th ms 0 = ms.length - 1 := rfl
              have gb : g18b os hs sp tl th ms 0 = true := by
                unfold g18b
                rw [Bool.and_eq_true]
                refine ⟨le64 (by omega), allN_of fun i hi => ?_⟩
                have hi : i < ms.length := hi
                unfold d18b df18b
                rw [inb_nat hi, hbo, hb]
                simp
              have gc : g18c os hs sp tl th ms 0 = true := by
                unfold g18c
                rw [Bool.and_eq_true]
                refine ⟨le64 (by omega), allN_of fun i hi => ?_⟩
                have hi : i < ms.length - 1 := hi
                unfold d18c df18c
                rw [show IntKind.i64.wrap (((i + 1 : Nat) : Int) - 1) = ((i : Nat) : Int) from (wrap_id (by omega) (by omega)).trans (by omega), inb_nat (show i < ms.length by omega), inb_nat (show i + 1 < ms.length by omega)]
                rfl
              have ea : ∀ i, i < ms.length → e18b os hs sp tl th ms 0 i = mkR os hs ms i := fun i hi => rfl
              have eb : anyN (e18c os hs sp tl th ms 0) (ms.length - 1) = anyN (ordR ms) (ms.length - 1) := anyN_congr fun i hi => by
                unfold e18c ex18c ordR
                rw [show IntKind.i64.wrap (((i + 1 : Nat) : Int) - 1) = ((i : Nat) : Int) from (wrap_id (by omega) (by omega)).trans (by omega)]
                rfl
              rw [gb, gc, Nb, Nc, anyN_congr ea, firstN_congr ea, eb, hm]
              cases anyN (mkR os hs ms) ms.length <;> cases anyN (ordR ms) (ms.length - 1) <;> cases anyN (clashB sp tl th ms) ms.length <;> rfl
            · rfl
          · rfl
        · rfl
      · rfl
    · rfl
  · rfl

noncomputable def Sl' : Ev.Spec := fun f args => match f, args with
  | 17, [.agg [.rs 32 os, .rs 71 hs, .i .i64 sp, .i .i64 tl, .i .i64 th, .rs 46 ms]] => some (okS os, .i .i64 (checkW os hs ms sp tl th))
  | 18, [.agg [.rs 32 os, .rs 71 hs, .i .i64 sp, .i .i64 tl, .i .i64 th, .rs 46 ms]] => some (true, .i .i64 (checkR os hs ms sp tl th))
  | f, args => Sk f args
theorem Sl'_ok : SpecOK Try.prog Sl' := by
  intro f args pre v h hp
  unfold Sl' at h
  split at h
  · cases h; exact con17 _ _ _ _ _ _ hp
  · cases h; exact con18 _ _ _ _ _ _
  · exact Sk_ok _ _ _ _ h hp
end Go.Proofs.Yteclfchlejocmaa

set_option maxRecDepth 100000
set_option linter.unusedVariables false
namespace Go.Proofs.Yteclfchlejocmaa
open Go Go.Ev

def pickZ (e : Int) (x : Int) : Int := cond (e == 0) x 0
def errW (os hs ms : List (List AV)) (sp tl th pu pv : Int) : Int := cond (checkW os hs ms sp tl th != 0) (checkW os hs ms sp tl th) (cond (!hasB os hs pu pv) 7 0)
def errR (os hs ms : List (List AV)) (sp tl th pu pv : Int) : Int := cond (checkR os hs ms sp tl th != 0) (checkR os hs ms sp tl th) (cond (!onB os hs pu pv) 7 0)
def bndT (e : Int) (ms : List (List AV)) (sp tl th pu pv : Int) : AV := .tup [.agg [.i .i64 (pickZ e (ms.foldl (loI sp pu pv) tl)), .i .i64 (pickZ e (ms.foldl (hiI sp pu pv) th))], .i .i64 e]
def boundsW (os hs ms : List (List AV)) (sp tl th pu pv : Int) : AV := bndT (errW os hs ms sp tl th pu pv) ms sp tl th pu pv
def boundsR (os hs ms : List (List AV)) (sp tl th pu pv : Int) : AV := bndT (errR os hs ms sp tl th pu pv) ms sp tl th pu pv
def okA (os hs ms : List (List AV)) : Bool := okS os && (Nat.ble hs.length 9223372036854775807 && Nat.ble ms.length 9223372036854775807)
theorem okA_parts {os hs ms : List (List AV)} (h : okA os hs ms = true) : okS os = true ∧ Nat.ble os.length 9223372036854775807 = true ∧ Nat.ble hs.length 9223372036854775807 = true ∧ Nat.ble ms.length 9223372036854775807 = true := by
  unfold okA at h
  simp only [Bool.and_eq_true] at h
  have h1 := h.1
  unfold okS at h1
  exact ⟨h.1, (Bool.and_eq_true_iff.1 h1).1, h.2.1, h.2.2⟩
theorem eq15 (os hs ms : List (List AV)) (sp tl th : Int) (pu pv : Int) : evF Try.prog Sl' (ro 15) (fun _ _ => none) Try.f15 [.agg [.rs 32 os, .rs 71 hs, .i .i64 sp, .i .i64 tl, .i .i64 th, .rs 46 ms], .agg [.i .i64 pu, .i .i64 pv]] =
    cond (okS os) (cond (checkW os hs ms sp tl th != 0) (some (.tup [.agg [.i .i64 0, .i .i64 0], .i .i64 (checkW os hs ms sp tl th)])) (cond (okS os && hs.length.ble 9223372036854775807) (cond (!hasB os hs pu pv) (some (.tup [.agg [.i .i64 0, .i .i64 0], .i .i64 7])) (cond (ms.length.ble 9223372036854775807) (some (.tup [.agg [.i .i64 (List.foldl (loI sp pu pv) tl ms), .i .i64 (List.foldl (hiI sp pu pv) th ms)], .i .i64 0])) (none))) (none))) (none) := by kernel_rfl
theorem con15 (os hs ms : List (List AV)) (sp tl th pu pv : Int) (h : okA os hs ms = true) : Con Try.prog 15 [.agg [.rs 32 os, .rs 71 hs, .i .i64 sp, .i .i64 tl, .i .i64 th, .rs 46 ms], .agg [.i .i64 pu, .i .i64 pv]] (boundsW os hs ms sp tl th pu pv) := by
  obtain ⟨h1, h2, h3, h4⟩ := okA_parts h
  refine con_plain Sl'_ok Try.func15 rfl (by kernel_rfl) ?_
  rw [eq15, h1, h3, h4]
  unfold boundsW bndT errW
  cases hc : checkW os hs ms sp tl th != 0
  · cases hasB os hs pu pv <;> rfl
  · simp only [cond_true]
    have : pickZ (checkW os hs ms sp tl th) = fun _ => 0 := by
      funext x
      unfold pickZ
      rw [show (checkW os hs ms sp tl th == 0) = false by simpa using hc]
      rfl
    rw [this]
theorem eq16 (os hs ms : List (List AV)) (sp tl th : Int) (pu pv : Int) : evF Try.prog Sl' (ro 16) (fun _ _ => none) Try.f16 [.agg [.rs 32 os, .rs 71 hs, .i .i64 sp, .i .i64 tl, .i .i64 th, .rs 46 ms], .agg [.i .i64 pu, .i .i64 pv]] =
    cond (checkR os hs ms sp tl th == 0) (cond (os.length.ble 9223372036854775807 && hs.length.ble 9223372036854775807) (cond (!onB os hs pu pv) (some (.tup [.agg [.i .i64 0, .i .i64 0], .i .i64 7])) (cond (checkR os hs ms sp tl th != 0) (some (.tup [.agg [.i .i64 0, .i .i64 0], .i .i64 (checkR os hs ms sp tl th)])) (cond (ms.length.ble 9223372036854775807) (some (.tup [.agg [.i .i64 (List.foldl (loI sp pu pv) tl ms), .i .i64 (List.foldl (hiI sp pu pv) th ms)], .i .i64 0])) (none)))) (none)) (cond (checkR os hs ms sp tl th != 0) (some (.tup [.agg [.i .i64 0, .i .i64 0], .i .i64 (checkR os hs ms sp tl th)])) (cond (ms.length.ble 9223372036854775807) (some (.tup [.agg [.i .i64 (List.foldl (loI sp pu pv) tl ms), .i .i64 (List.foldl (hiI sp pu pv) th ms)], .i .i64 0])) (none))) := by kernel_rfl
theorem con16 (os hs ms : List (List AV)) (sp tl th pu pv : Int) (h : okA os hs ms = true) : Con Try.prog 16 [.agg [.rs 32 os, .rs 71 hs, .i .i64 sp, .i .i64 tl, .i .i64 th, .rs 46 ms], .agg [.i .i64 pu, .i .i64 pv]] (boundsR os hs ms sp tl th pu pv) := by
  obtain ⟨h1, h2, h3, h4⟩ := okA_parts h
  refine con_plain Sl'_ok Try.func16 rfl (by kernel_rfl) ?_
  rw [eq16, h2, h3, h4]
  unfold boundsR bndT errR
  cases hc : checkR os hs ms sp tl th != 0
  · rw [show (checkR os hs ms sp tl th == 0) = true by simpa using hc]
    cases onB os hs pu pv <;> rfl
  · rw [show (checkR os hs ms sp tl th == 0) = false by simpa using hc]
    simp only [cond_true, cond_false]
    have : pickZ (checkR os hs ms sp tl th) = fun _ => 0 := by
      funext x
      unfold pickZ
      rw [show (checkR os hs ms sp tl th == 0) = false by simpa using hc]
      rfl
    rw [this]
noncomputable def Sm : Ev.Spec := fun f args => match f, args with
  | 15, [.agg [.rs 32 os, .rs 71 hs, .i .i64 sp, .i .i64 tl, .i .i64 th, .rs 46 ms], .agg [.i .i64 pu, .i .i64 pv]] => some (okA os hs ms, boundsW os hs ms sp tl th pu pv)
  | 16, [.agg [.rs 32 os, .rs 71 hs, .i .i64 sp, .i .i64 tl, .i .i64 th, .rs 46 ms], .agg [.i .i64 pu, .i .i64 pv]] => some (okA os hs ms, boundsR os hs ms sp tl th pu pv)
  | 14, [] => some (true, .b true)
  | f, args => Sl' f args
theorem Sm_ok : SpecOK Try.prog Sm := by
  intro f args pre v h hp
  unfold Sm at h
  split at h
  · cases h; exact con15 _ _ _ _ _ _ _ _ hp
  · cases h; exact con16 _ _ _ _ _ _ _ _ hp
  · cases h; exact lives_con
  · exact Sl'_ok _ _ _ _ h hp
end Go.Proofs.Yteclfchlejocmaa

set_option maxRecDepth 100000
set_option linter.unusedVariables false
namespace Go.Proofs.Yteclfchlejocmaa
open Go Go.Ev

/-! ### Arithmetic without overflow -/
theorem mul_bound {x y a b : Int} (h0 : -a ≤ x) (h1 : x ≤ a) (h2 : -b ≤ y) (h3 : y ≤ b) : -(a * b) ≤ x * y ∧ x * y ≤ a * b := by
  have hx : x.natAbs ≤ a.natAbs := by omega
  have hy : y.natAbs ≤ b.natAbs := by omega
  have h := Nat.mul_le_mul hx hy
  rw [← Int.natAbs_mul, ← Int.natAbs_mul] at h
  have hab : 0 ≤ a * b := Int.mul_nonneg (by omega) (by omega)
  omega
def leftX (a b c d u v : Int) : Int := (c - a) * (v - b) - (d - b) * (u - a)
def In4 (x : Int) : Prop := 0 ≤ x ∧ x ≤ 400
theorem leftI_eq {a b c d u v : Int} (ha : In4 a) (hb : In4 b) (hc : In4 c) (hd : In4 d) (hu : In4 u) (hv : In4 v) : leftI a b c d u v = leftX a b c d u v ∧ -320000 ≤ leftX a b c d u v ∧ leftX a b c d u v ≤ 320000 := by
  obtain ⟨a0, a1⟩ := ha
  obtain ⟨b0, b1⟩ := hb
  obtain ⟨c0, c1⟩ := hc
  obtain ⟨d0, d1⟩ := hd
  obtain ⟨u0, u1⟩ := hu
  obtain ⟨v0, v1⟩ := hv
  have m1 := mul_bound (x := c - a) (y := v - b) (a := 400) (b := 400) (by omega) (by omega) (by omega) (by omega)
  have m2 := mul_bound (x := d - b) (y := u - a) (a := 400) (b := 400) (by omega) (by omega) (by omega) (by omega)
  unfold leftI leftX
  have e1 : Wr (c - a) = c - a := wrap_id (by omega) (by omega)
  have e2 : Wr (v - b) = v - b := wrap_id (by omega) (by omega)
  have e3 : Wr (d - b) = d - b := wrap_id (by omega) (by omega)
  have e4 : Wr (u - a) = u - a := wrap_id (by omega) (by omega)
  rw [e1, e2, e3, e4]
  generalize (c - a) * (v - b) = x at *
  generalize (d - b) * (u - a) = y at *
  have e5 : Wr x = x := wrap_id (by omega) (by omega)
  have e6 : Wr y = y := wrap_id (by omega) (by omega)
  have e7 : Wr (x - y) = x - y := wrap_id (by omega) (by omega)
  rw [e5, e6, e7]
  omega

/-- A sum. -/
def sumN (f : Nat → Int) : Nat → Int
  | 0 => 0
  | n + 1 => sumN f n + f n
theorem sumN_congr {f g : Nat → Int} : ∀ {n : Nat}, (∀ i, i < n → f i = g i) → sumN f n = sumN g n
  | 0, _ => rfl
  | n + 1, h => by simp only [sumN]; rw [h n (by omega), sumN_congr fun i hi => h i (by omega)]
theorem sumN_nonneg {f : Nat → Int} : ∀ {n : Nat}, (∀ i, i < n → 0 ≤ f i) → 0 ≤ sumN f n
  | 0, _ => Int.le_refl _
  | n + 1, h => by
    have h1 := sumN_nonneg (f := f) (n := n) fun i hi => h i (by omega)
    have h2 := h n (by omega)
    simp only [sumN]; omega
theorem sumN_le {f : Nat → Int} : ∀ {n : Nat}, (∀ i, i < n → 0 ≤ f i) → ∀ i, i < n → f i ≤ sumN f n
  | 0, _, i, hi => by omega
  | n + 1, h, i, hi => by
    simp only [sumN]
    have h1 := sumN_nonneg (f := f) (n := n) fun i hi => h i (by omega)
    have h2 := h n (by omega)
    by_cases e : i = n
    · subst e; omega
    · have := sumN_le (f := f) (n := n) (fun i hi => h i (by omega)) i (by omega)
      omega
theorem sumN_pos {f : Nat → Int} : ∀ {n : Nat}, 0 < sumN f n → ∃ i, i < n ∧ 0 < f i
  | 0, h => by simp [sumN] at h
  | n + 1, h => by
    simp only [sumN] at h
    by_cases h1 : 0 < f n
    · exact ⟨n, by omega, h1⟩
    · obtain ⟨i, hi, h2⟩ := sumN_pos (f := f) (n := n) (by omega)
      exact ⟨i, by omega, h2⟩
theorem sumN_lin {f g h : Nat → Int} {a b : Int} (e : ∀ i, f i = g i + a * h i - b * 0) : ∀ n, sumN f n = sumN g n + a * sumN h n
  | 0 => by simp [sumN]
  | n + 1 => by
    simp only [sumN]
    rw [sumN_lin e n, e n, Int.mul_add]
    omega
/-- Round a ring nothing is won. -/
theorem ring_sum (u : Nat → Int) {n : Nat} (h : 0 < n) : sumN (fun i => u ((i + 1) % n) - u i) n = 0 := by
  have key : ∀ k, k < n → sumN (fun i => u ((i + 1) % n) - u i) k = u k - u 0 := by
    intro k
    induction k with
    | zero => intro _; simp [sumN]
    | succ k ih =>
      intro hk
      simp only [sumN]
      rw [ih (by omega), Nat.mod_eq_of_lt hk]
      omega
  obtain ⟨m, rfl⟩ : ∃ m, n = m + 1 := ⟨n - 1, by omega⟩
  simp only [sumN]
  rw [key m (by omega), Nat.mod_self]
  omega

theorem nxt_lt {es : List (List AV)} {i : Nat} (h : i < es.length) : nxt es i < es.length := Nat.mod_lt _ (by omega)
theorem prv_lt {es : List (List AV)} {i : Nat} (h : i < es.length) : prv es i < es.length := Nat.mod_lt _ (by omega)
theorem nxt_prv {es : List (List AV)} {i : Nat} (h : i < es.length) : nxt es (prv es i) = i := by
  cases i with
  | zero =>
    rw [prv_zero h]
    unfold nxt
    rw [show es.length - 1 + 1 = es.length by omega, Nat.mod_self]
  | succ i =>
    rw [prv_succ (by omega)]
    unfold nxt
    exact Nat.mod_eq_of_lt h
theorem prv_nxt {es : List (List AV)} {i : Nat} (h : i < es.length) : prv es (nxt es i) = i := by
  unfold nxt
  by_cases e : i + 1 = es.length
  · rw [e, Nat.mod_self, prv_zero (by omega)]; omega
  · rw [Nat.mod_eq_of_lt (by omega), prv_succ h]
theorem nxt_nxt {es : List (List AV)} {i : Nat} (h : i < es.length) : nxt2 es i = nxt es (nxt es i) := by
  unfold nxt nxt2
  by_cases e : i + 1 = es.length
  · rw [e, Nat.mod_self, show i + 2 = 1 + es.length by omega, Nat.add_mod_right, Nat.zero_add]
  · rw [Nat.mod_eq_of_lt (show i + 1 < es.length by omega)]

theorem twice_eq (es : List (List AV)) : anyN (twiceW es) es.length = anyN (twiceR es) es.length := anyN_congr fun i hi => by
  unfold twiceW twiceR
  refine anyN_congr fun k hk => ?_
  unfold ex75 twiceE pU pV
  have : (es.take i).getD k [] = es.getD k [] := by
    simp [List.getD_eq_getElem?_getD, hk]
  rw [this]
theorem bad_eq (es : List (List AV)) : anyN (badW es) es.length = anyN (badR es) es.length := by
  rw [Bool.eq_iff_iff, anyN_iff, anyN_iff]
  unfold badW badR
  constructor
  · rintro ⟨i, hi, hx⟩
    rcases Bool.or_eq_true_iff.1 hx with hx | hx
    · exact ⟨i, hi, by rw [hx]; rfl⟩
    · refine ⟨prv es i, prv_lt hi, ?_⟩
      rw [nxt_nxt (prv_lt hi), nxt_prv hi, hx, Bool.or_true]
  · rintro ⟨i, hi, hx⟩
    rcases Bool.or_eq_true_iff.1 hx with hx | hx
    · exact ⟨i, hi, by rw [hx]; rfl⟩
    · refine ⟨nxt es i, nxt_lt hi, ?_⟩
      rw [prv_nxt hi, ← nxt_nxt hi, hx, Bool.or_true]

theorem placed_of {es : List (List AV)} (h : anyN (ex74 es) es.length = false) {i : Nat} (hi : i < es.length) : In4 (pU es i) ∧ In4 (pV es i) := by
  have := anyN_false h hi
  unfold ex74 plB at this
  simp only [Bool.not_eq_false', Bool.and_eq_true, inB_true] at this
  exact this
def sideX (es : List (List AV)) (u v : Int) (i : Nat) : Int := leftX (pU es i) (pV es i) (pU es (nxt es i)) (pV es (nxt es i)) u v
theorem shoelace (es : List (List AV)) (h : 0 < es.length) (u v u' v' : Int) : sumN (sideX es u v) es.length = sumN (sideX es u' v') es.length := by
  have e : ∀ i, sideX es u v i = (sideX es u' v' i + (v - v') * (pU es (nxt es i) - pU es i)) + (u' - u) * (pV es (nxt es i) - pV es i) := by
    intro i
    unfold sideX leftX
    generalize pU es i = a
    generalize pV es i = b
    generalize pU es (nxt es i) = c
    generalize pV es (nxt es i) = d
    grind
  have s1 : sumN (fun i => pU es (nxt es i) - pU es i) es.length = 0 := ring_sum (pU es) h
  have s2 : sumN (fun i => pV es (nxt es i) - pV es i) es.length = 0 := ring_sum (pV es) h
  rw [sumN_lin (f := sideX es u v) (g := fun i => sideX es u' v' i + (v - v') * (pU es (nxt es i) - pU es i)) (h := fun i => pV es (nxt es i) - pV es i) (a := u' - u) (b := 0) (fun i => by rw [e i]; omega),
    sumN_lin (f := fun i => sideX es u' v' i + (v - v') * (pU es (nxt es i) - pU es i)) (g := sideX es u' v') (h := fun i => pU es (nxt es i) - pU es i) (a := v - v') (b := 0) (fun i => by omega), s1, s2]
  omega
theorem area_sum {es : List (List AV)} (hn : es.length ≤ 12) (hp : anyN (ex74 es) es.length = false) (k : Nat) (hk : k ≤ es.length) :
    areaR es k = sumN (sideX es (pU es 0) (pV es 0)) k ∧ -(320000 * (k : Int)) ≤ areaR es k ∧ areaR es k ≤ 320000 * (k : Int) := by
  induction k with
  | zero => exact ⟨rfl, by simp [areaR], by simp [areaR]⟩
  | succ k ih =>
    obtain ⟨i1, i2, i3⟩ := ih (by omega)
    have p0 := placed_of hp (show 0 < es.length by omega)
    have pk := placed_of hp (show k < es.length by omega)
    have pn := placed_of hp (nxt_lt (show k < es.length by omega))
    obtain ⟨l1, l2, l3⟩ := leftI_eq p0.1 p0.2 pk.1 pk.2 pn.1 pn.2
    have hX : sideX es (pU es 0) (pV es 0) k = leftX (pU es 0) (pV es 0) (pU es k) (pV es k) (pU es (nxt es k)) (pV es (nxt es k)) := by
      unfold sideX leftX
      generalize pU es k = a
      generalize pV es k = b
      generalize pU es (nxt es k) = c
      generalize pV es (nxt es k) = d
      grind
    unfold areaR
    simp only [sumN]
    rw [l1, hX]
    have : Wr (areaR es k + leftX (pU es 0) (pV es 0) (pU es k) (pV es k) (pU es (nxt es k)) (pV es (nxt es k))) = areaR es k + leftX (pU es 0) (pV es 0) (pU es k) (pV es k) (pU es (nxt es k)) (pV es (nxt es k)) := wrap_id (by omega) (by omega)
    rw [this, i1]
    refine ⟨rfl, ?_, ?_⟩ <;> omega
theorem leftS_eq {es : List (List AV)} (hp : anyN (ex74 es) es.length = false) {i k : Nat} (hi : i < es.length) (hk : k < es.length) : leftS es i (pU es k) (pV es k) = sideX es (pU es k) (pV es k) i := by
  have pi := placed_of hp hi
  have pn := placed_of hp (nxt_lt hi)
  have pk := placed_of hp hk
  exact (leftI_eq pi.1 pi.2 pn.1 pn.2 pk.1 pk.2).1
theorem some_eq {es : List (List AV)} (h3 : 3 ≤ es.length) (hn : es.length ≤ 12) (hp : anyN (ex74 es) es.length = false) (hb : anyN (badW es) es.length = false) : (!someW es) = decide (areaR es es.length ≤ 0) := by
  obtain ⟨ha, _⟩ := area_sum hn hp es.length (Nat.le_refl _)
  have nn : ∀ k, k < es.length → ∀ i, i < es.length → 0 ≤ sideX es (pU es k) (pV es k) i := by
    intro k hk i hi
    have := anyN_false hb hi
    unfold badW at this
    obtain ⟨h1, _⟩ := Bool.or_eq_false_iff.1 this
    have h2 := anyN_false h1 hk
    unfold negP at h2
    rw [leftS_eq hp hi hk] at h2
    have := of_decide_eq_false h2
    omega
  rw [ha, Bool.eq_iff_iff, Bool.not_eq_true', decide_eq_true_eq]
  constructor
  · intro h
    refine Int.not_lt.1 fun hlt => ?_
    obtain ⟨i, hi, hx⟩ := sumN_pos hlt
    have : someW es = true := by
      unfold someW
      rw [anyN_iff]
      refine ⟨i, hi, ?_⟩
      rw [anyN_iff]
      refine ⟨0, by omega, ?_⟩
      unfold posP
      rw [leftS_eq hp hi (by omega)]
      exact decide_eq_true hx
    rw [h] at this
    cases this
  · intro h
    cases hs : someW es with
    | false => rfl
    | true =>
      unfold someW at hs
      rw [anyN_iff] at hs
      obtain ⟨i, hi, hx⟩ := hs
      rw [anyN_iff] at hx
      obtain ⟨k, hk, hx⟩ := hx
      unfold posP at hx
      rw [leftS_eq hp hi hk] at hx
      have hx := of_decide_eq_true hx
      have h1 := sumN_le (nn k hk) i hi
      rw [shoelace es (by omega) (pU es k) (pV es k) (pU es 0) (pV es 0)] at h1
      omega
theorem out_eq (es : List (List AV)) : outW es = outR es := by
  unfold outW outR
  cases h0 : !inB (es.length : Nat) 3 12
  · obtain ⟨h3, h12⟩ := inB_len h0
    cases hp : anyN (ex74 es) es.length
    · rw [twice_eq]
      cases hb : anyN (badW es) es.length
      · rw [← bad_eq, hb, some_eq h3 h12 hp hb]
      · rw [← bad_eq, hb]; rfl
    · rfl
  · rfl
theorem has_eq (os hs : List (List AV)) (pu pv : Int) : hasB os hs pu pv = onB os hs pu pv := by
  unfold hasB onB pointB plB
  rw [Bool.and_assoc]
end Go.Proofs.Yteclfchlejocmaa

set_option maxRecDepth 100000
set_option linter.unusedVariables false
namespace Go.Proofs.Yteclfchlejocmaa
open Go Go.Ev

/-! ### The order of marks -/
theorem cmpI_cases (a b : Int) : (a < b ∧ cmpI a b = -1) ∨ (a = b ∧ cmpI a b = 0) ∨ (b < a ∧ cmpI a b = 1) := by
  unfold cmpI
  by_cases h : a < b
  · exact .inl ⟨h, by simp [h]⟩
  · by_cases h2 : a > b
    · exact .inr (.inr ⟨h2, by simp [h, h2]⟩)
    · exact .inr (.inl ⟨by omega, by simp [h, h2]⟩)
theorem order_eq (a b c d : Int) : decide (orderI a b c d ≥ 0) = !behindB c d a b := by
  unfold orderI behindB
  rcases cmpI_cases b d with ⟨h, e⟩ | ⟨h, e⟩ | ⟨h, e⟩
  · rw [e]
    simp [h]
  · subst h
    rw [e]
    rcases cmpI_cases a c with ⟨h, e⟩ | ⟨h, e⟩ | ⟨h, e⟩
    · rw [e]; simp [h]
    · subst h; rw [e]; simp
    · rw [e]; simp; omega
  · rw [e]
    simp
    omega
theorem ord_eq (ms : List (List AV)) : anyN (ordW ms) ms.length = anyN (ordR ms) (ms.length - 1) := by
  rw [Bool.eq_iff_iff, anyN_iff, anyN_iff]
  constructor
  · rintro ⟨i, hi, hx⟩
    unfold ordW at hx
    obtain ⟨h1, h2⟩ := Bool.and_eq_true_iff.1 hx
    have h1 := of_decide_eq_true h1
    refine ⟨i - 1, by omega, ?_⟩
    rw [order_eq] at h2
    unfold ordR
    rw [show i - 1 + 1 = i by omega]
    exact h2
  · rintro ⟨i, hi, hx⟩
    refine ⟨i + 1, by omega, ?_⟩
    unfold ordW
    rw [order_eq]
    unfold ordR at hx
    rw [Nat.add_sub_cancel, hx]
    simp

/-! ### Bounds -/
theorem bmax_cases (a b : Int) : a ≤ bmax a b ∧ b ≤ bmax a b ∧ (bmax a b = a ∨ bmax a b = b) := by
  unfold bmax
  split <;> omega
theorem bmin_cases (a b : Int) : bmin a b ≤ a ∧ bmin a b ≤ b ∧ (bmin a b = a ∨ bmin a b = b) := by
  unfold bmin
  split <;> omega
theorem foldl_max {v : List AV → Int} : ∀ (ms : List (List AV)) (x : Int), x ≤ ms.foldl (fun x e => bmax x (v e)) x ∧ (∀ e, e ∈ ms → v e ≤ ms.foldl (fun x e => bmax x (v e)) x) ∧
    (ms.foldl (fun x e => bmax x (v e)) x = x ∨ ∃ e, e ∈ ms ∧ ms.foldl (fun x e => bmax x (v e)) x = v e)
  | [], x => ⟨Int.le_refl _, by simp, .inl rfl⟩
  | a :: ms, x => by
    obtain ⟨h1, h2, h3⟩ := foldl_max (v := v) ms (bmax x (v a))
    obtain ⟨q1, q2, q3⟩ := bmax_cases x (v a)
    simp only [List.foldl_cons]
    refine ⟨by omega, fun e he => ?_, ?_⟩
    · rcases List.mem_cons.1 he with rfl | he
      · omega
      · exact h2 e he
    · rcases h3 with h3 | ⟨e, he, h3⟩
      · rw [h3]
        rcases q3 with q3 | q3
        · exact .inl q3
        · exact .inr ⟨a, by simp, q3⟩
      · exact .inr ⟨e, by simp [he], h3⟩
theorem foldl_min {v : List AV → Int} : ∀ (ms : List (List AV)) (x : Int), ms.foldl (fun x e => bmin x (v e)) x ≤ x ∧ (∀ e, e ∈ ms → ms.foldl (fun x e => bmin x (v e)) x ≤ v e) ∧
    (ms.foldl (fun x e => bmin x (v e)) x = x ∨ ∃ e, e ∈ ms ∧ ms.foldl (fun x e => bmin x (v e)) x = v e)
  | [], x => ⟨Int.le_refl _, by simp, .inl rfl⟩
  | a :: ms, x => by
    obtain ⟨h1, h2, h3⟩ := foldl_min (v := v) ms (bmin x (v a))
    obtain ⟨q1, q2, q3⟩ := bmin_cases x (v a)
    simp only [List.foldl_cons]
    refine ⟨by omega, fun e he => ?_, ?_⟩
    · rcases List.mem_cons.1 he with rfl | he
      · omega
      · exact h2 e he
    · rcases h3 with h3 | ⟨e, he, h3⟩
      · rw [h3]
        rcases q3 with q3 | q3
        · exact .inl q3
        · exact .inr ⟨a, by simp, q3⟩
      · exact .inr ⟨e, by simp [he], h3⟩

/-- The distance, exactly. -/
def farX (a b c d : Int) : Int := max (a - c) (c - a) + max (b - d) (d - b)
theorem farX_self (a b : Int) : farX a b a b = 0 := by unfold farX; omega
theorem farX_tri (a b c d e f : Int) : farX a b e f ≤ farX a b c d + farX c d e f := by unfold farX; omega
theorem farX_sym (a b c d : Int) : farX a b c d = farX c d a b := by unfold farX; omega
theorem farX_nonneg (a b c d : Int) : 0 ≤ farX a b c d := by unfold farX; omega
theorem bmax_max (a b : Int) : bmax a b = max a b := by unfold bmax; split <;> omega
theorem farI_eq {a b c d : Int} (ha : In4 a) (hb : In4 b) (hc : In4 c) (hd : In4 d) : farI a b c d = farX a b c d ∧ farX a b c d ≤ 800 := by
  obtain ⟨a0, a1⟩ := ha
  obtain ⟨b0, b1⟩ := hb
  obtain ⟨c0, c1⟩ := hc
  obtain ⟨d0, d1⟩ := hd
  unfold farI farX
  rw [show Wr (a - c) = a - c from wrap_id (by omega) (by omega), show Wr (c - a) = c - a from wrap_id (by omega) (by omega), show Wr (b - d) = b - d from wrap_id (by omega) (by omega), show Wr (d - b) = d - b from wrap_id (by omega) (by omega), bmax_max, bmax_max]
  exact ⟨wrap_id (by omega) (by omega), by omega⟩
/-- What is known of a mark that may be. -/
structure MarkOK (e : List AV) : Prop where
  u : In4 (cU e)
  v : In4 (cV e)
  lo : 0 ≤ c2 e
  le : c2 e ≤ c3 e
  hi : c3 e ≤ 2000
def dX (sp pu pv : Int) (e : List AV) : Int := sp * farX pu pv (cU e) (cV e)
theorem dist_eq {sp pu pv : Int} {e : List AV} (hs : 0 ≤ sp ∧ sp ≤ 1000) (hu : In4 pu) (hv : In4 pv) (he : MarkOK e) : distI sp pu pv e = dX sp pu pv e ∧ 0 ≤ dX sp pu pv e ∧ dX sp pu pv e ≤ 800000 := by
  obtain ⟨f1, f2⟩ := farI_eq hu hv he.u he.v
  have f0 := farX_nonneg pu pv (cU e) (cV e)
  unfold distI dX
  rw [f1]
  have m := mulb hs.1 hs.2 f0 f2
  exact ⟨wrap_id (by omega) (by omega), m.1, by omega⟩
theorem lo_eq {sp pu pv : Int} {e : List AV} (hs : 0 ≤ sp ∧ sp ≤ 1000) (hu : In4 pu) (hv : In4 pv) (he : MarkOK e) : Wr (c2 e - distI sp pu pv e) = c2 e - dX sp pu pv e := by
  obtain ⟨d1, d2, d3⟩ := dist_eq hs hu hv he
  have := he.lo
  have := he.le
  have := he.hi
  rw [d1]
  exact wrap_id (by omega) (by omega)
theorem hi_eq {sp pu pv : Int} {e : List AV} (hs : 0 ≤ sp ∧ sp ≤ 1000) (hu : In4 pu) (hv : In4 pv) (he : MarkOK e) : Wr (c3 e + distI sp pu pv e) = c3 e + dX sp pu pv e := by
  obtain ⟨d1, d2, d3⟩ := dist_eq hs hu hv he
  have := he.lo
  have := he.le
  have := he.hi
  rw [d1]
  exact wrap_id (by omega) (by omega)
/-- What is said of a point: the lower end, the upper end. -/
theorem lows {sp tl pu pv : Int} {ms : List (List AV)} (hs : 0 ≤ sp ∧ sp ≤ 1000) (hu : In4 pu) (hv : In4 pv) (hm : ∀ e, e ∈ ms → MarkOK e) :
    tl ≤ ms.foldl (loI sp pu pv) tl ∧ (∀ e, e ∈ ms → c2 e - dX sp pu pv e ≤ ms.foldl (loI sp pu pv) tl) ∧ (ms.foldl (loI sp pu pv) tl = tl ∨ ∃ e, e ∈ ms ∧ ms.foldl (loI sp pu pv) tl = c2 e - dX sp pu pv e) := by
  obtain ⟨h1, h2, h3⟩ := foldl_max (v := fun e => Wr (c2 e - distI sp pu pv e)) ms tl
  refine ⟨h1, fun e he => ?_, ?_⟩
  · rw [← lo_eq hs hu hv (hm e he)]; exact h2 e he
  · rcases h3 with h3 | ⟨e, he, h3⟩
    · exact .inl h3
    · exact .inr ⟨e, he, by rw [← lo_eq hs hu hv (hm e he)]; exact h3⟩
theorem highs {sp th pu pv : Int} {ms : List (List AV)} (hs : 0 ≤ sp ∧ sp ≤ 1000) (hu : In4 pu) (hv : In4 pv) (hm : ∀ e, e ∈ ms → MarkOK e) :
    ms.foldl (hiI sp pu pv) th ≤ th ∧ (∀ e, e ∈ ms → ms.foldl (hiI sp pu pv) th ≤ c3 e + dX sp pu pv e) ∧ (ms.foldl (hiI sp pu pv) th = th ∨ ∃ e, e ∈ ms ∧ ms.foldl (hiI sp pu pv) th = c3 e + dX sp pu pv e) := by
  obtain ⟨h1, h2, h3⟩ := foldl_min (v := fun e => Wr (c3 e + distI sp pu pv e)) ms th
  refine ⟨h1, fun e he => ?_, ?_⟩
  · rw [← hi_eq hs hu hv (hm e he)]; exact h2 e he
  · rcases h3 with h3 | ⟨e, he, h3⟩
    · exact .inl h3
    · exact .inr ⟨e, he, by rw [← hi_eq hs hu hv (hm e he)]; exact h3⟩

theorem getD_mem {ms : List (List AV)} {i : Nat} (h : i < ms.length) : ms.getD i [] ∈ ms := by
  simp [List.getD_eq_getElem?_getD, List.getElem?_eq_getElem h]
theorem mem_getD {ms : List (List AV)} {e : List AV} (h : e ∈ ms) : ∃ i, i < ms.length ∧ ms.getD i [] = e := by
  obtain ⟨i, hi, he⟩ := List.mem_iff_getElem.1 h
  exact ⟨i, hi, by simp [List.getD_eq_getElem?_getD, List.getElem?_eq_getElem hi, he]⟩
theorem dX_tri {sp : Int} (hs : 0 ≤ sp) (a b : Int) (e f : List AV) : dX sp (cU e) (cV e) f ≤ dX sp a b e + dX sp a b f := by
  unfold dX
  have h := farX_tri (cU e) (cV e) a b (cU f) (cV f)
  rw [farX_sym (cU e) (cV e) a b] at h
  rw [← Int.mul_add]
  exact Int.mul_le_mul_of_nonneg_left h hs
theorem dX_self (sp : Int) (e : List AV) : dX sp (cU e) (cV e) e = 0 := by
  unfold dX
  rw [farX_self, Int.mul_zero]
theorem clash_eq {sp tl th : Int} {ms : List (List AV)} (hs : 0 ≤ sp ∧ sp ≤ 1000) (ht : 0 ≤ tl ∧ tl ≤ th ∧ th ≤ 2000) (hm : ∀ e, e ∈ ms → MarkOK e) : anyN (bndW sp tl th ms) ms.length = anyN (clashB sp tl th ms) ms.length := by
  have hcl : ∀ i k, i < ms.length → k < ms.length → clashE sp ms i k = decide (c2 (ms.getD i []) > c3 (ms.getD k []) + dX sp (cU (ms.getD i [])) (cV (ms.getD i [])) (ms.getD k [])) := fun i k hi hk => by
    unfold clashE
    have h1 := hm _ (getD_mem hi)
    rw [hi_eq hs h1.u h1.v (hm _ (getD_mem hk))]
  rw [Bool.eq_iff_iff, anyN_iff, anyN_iff]
  constructor
  · rintro ⟨i, hi, hx⟩
    unfold bndW at hx
    have hx := of_decide_eq_true hx
    have h1 := hm _ (getD_mem hi)
    obtain ⟨_, _, l3⟩ := lows (tl := tl) hs h1.u h1.v hm
    obtain ⟨_, _, u3⟩ := highs (th := th) hs h1.u h1.v hm
    rcases l3 with l3 | ⟨e, he, l3⟩ <;> rcases u3 with u3 | ⟨f, hf, u3⟩
    · omega
    · obtain ⟨k, hk, rfl⟩ := mem_getD hf
      have := (dist_eq hs h1.u h1.v (hm _ hf)).2.1
      refine ⟨k, hk, ?_⟩
      unfold clashB
      rw [show decide (c3 (ms.getD k []) < tl) = true from decide_eq_true (by omega)]
      simp
    · obtain ⟨k, hk, rfl⟩ := mem_getD he
      have := (dist_eq hs h1.u h1.v (hm _ he)).2.1
      refine ⟨k, hk, ?_⟩
      unfold clashB
      rw [show decide (c2 (ms.getD k []) > th) = true from decide_eq_true (by omega)]
      simp
    · obtain ⟨k, hk, rfl⟩ := mem_getD he
      obtain ⟨l, hl, rfl⟩ := mem_getD hf
      refine ⟨k, hk, ?_⟩
      have ht3 := dX_tri hs.1 (cU (ms.getD i [])) (cV (ms.getD i [])) (ms.getD k []) (ms.getD l [])
      unfold clashB
      have : anyN (clashE sp ms k) ms.length = true := anyN_iff.2 ⟨l, hl, by rw [hcl k l hk hl]; exact decide_eq_true (by omega)⟩
      rw [this]
      simp
  · rintro ⟨i, hi, hx⟩
    have h1 := hm _ (getD_mem hi)
    obtain ⟨l1, l2, _⟩ := lows (tl := tl) hs h1.u h1.v hm
    obtain ⟨u1, u2, _⟩ := highs (th := th) hs h1.u h1.v hm
    have l2i := l2 _ (getD_mem hi)
    have u2i := u2 _ (getD_mem hi)
    rw [dX_self] at l2i u2i
    refine ⟨i, hi, ?_⟩
    unfold bndW
    refine decide_eq_true ?_
    unfold clashB at hx
    rcases Bool.or_eq_true_iff.1 hx with hx | hx
    · have := of_decide_eq_true hx
      omega
    rcases Bool.or_eq_true_iff.1 hx with hx | hx
    · have := of_decide_eq_true hx
      omega
    · obtain ⟨k, hk, hx⟩ := anyN_iff.1 hx
      rw [hcl i k hi hk] at hx
      have := of_decide_eq_true hx
      have := u2 _ (getD_mem hk)
      omega

theorem marks_ok {os hs ms : List (List AV)} (h : anyN (mkW os hs ms) ms.length = false) : ∀ e, e ∈ ms → MarkOK e := by
  intro e he
  obtain ⟨i, hi, rfl⟩ := mem_getD he
  have := anyN_false h hi
  unfold mkW hasB plB at this
  simp only [Bool.or_eq_false_iff, Bool.not_eq_false', Bool.and_eq_true, inB_true, spB_true] at this
  exact ⟨this.1.1.1, this.1.1.2, this.2.1, this.2.2.1, this.2.2.2⟩
theorem check_eq (os hs ms : List (List AV)) (sp tl th : Int) : checkW os hs ms sp tl th = checkR os hs ms sp tl th := by
  unfold checkW checkR
  have hm : mkW os hs ms = mkR os hs ms := by
    funext i
    unfold mkW mkR
    rw [has_eq]
  rw [out_eq, ← hm, ord_eq]
  simp only [has_eq]
  cases outR os != 0
  · cases decide (((hs.length : Nat) : Int) > 6)
    · cases anyN (ex64a hs) hs.length
      · cases h1 : inB sp 0 1000
        · rfl
        · cases h2 : spB tl th 2000
          · rfl
          · cases decide (((ms.length : Nat) : Int) > 40)
            · cases h3 : anyN (mkW os hs ms) ms.length
              · rw [clash_eq (inB_true.1 h1) (spB_true.1 h2) (marks_ok h3)]
              · rfl
            · rfl
      · rfl
    · rfl
  · rfl
theorem err_eq (os hs ms : List (List AV)) (sp tl th pu pv : Int) : errW os hs ms sp tl th pu pv = errR os hs ms sp tl th pu pv := by
  unfold errW errR
  rw [check_eq, has_eq]
end Go.Proofs.Yteclfchlejocmaa

set_option maxRecDepth 100000
set_option linter.unusedVariables false
namespace Go.Proofs.Yteclfchlejocmaa
open Go Go.Ev

/-- Rows of whole numbers, as their type says. -/
structure Rws (e : TypeId) (k : Nat) (es : List (List AV)) : Prop where
  len : es.length ≤ 9223372036854775807
  each : ∀ x, x ∈ es → x.length = k ∧ ∀ j, j < k → ∃ n, x.getD j .u = .i .i64 n ∧ -9223372036854775808 ≤ n ∧ n ≤ 9223372036854775807
theorem rws_of {e : TypeId} {k : Nat} {a : AV} (hc : cts Try.prog e = List.replicate k (.int .i64)) (h : WT Try.prog (.sl e) a) : ∃ es, a = .rs e es ∧ Rws e k es := by
  cases h with
  | sl h1 h2 h3 =>
    refine ⟨_, rfl, h1, fun x hx => ?_⟩
    have hl := h2 x hx
    rw [hc, List.length_replicate] at hl
    refine ⟨hl, fun j hj => ?_⟩
    have := h3 x hx j (by omega)
    rw [hc, show (List.replicate k (CT.int .i64)).getD j .oth = .int .i64 by simp [List.getD_eq_getElem?_getD, hj]] at this
    obtain ⟨n, hn, r1, r2⟩ := WT_int this
    exact ⟨n, hn, r1, r2⟩
theorem rws_int {e : TypeId} {k : Nat} {es : List (List AV)} (h : Rws e k es) (i j : Nat) : -9223372036854775808 ≤ toI ((es.getD i []).getD j .u) ∧ toI ((es.getD i []).getD j .u) ≤ 9223372036854775807 := by
  by_cases hi : i < es.length
  · obtain ⟨hl, hn⟩ := h.each _ (getD_mem hi)
    by_cases hj : j < k
    · obtain ⟨n, e, r1, r2⟩ := hn j hj
      rw [e]
      exact ⟨r1, r2⟩
    · rw [show (es.getD i []).getD j .u = .u by rw [List.getD_eq_getElem?_getD, List.getElem?_eq_none (by omega)]; rfl]
      exact ⟨by decide, by decide⟩
  · rw [show es.getD i [] = [] by rw [List.getD_eq_getElem?_getD, List.getElem?_eq_none (by omega)]; rfl]
    exact ⟨by simp [toI], by simp [toI]⟩
theorem okS_of {es : List (List AV)} (h : Rws 32 2 es) : okS es = true := by
  unfold okS
  rw [Bool.and_eq_true]
  refine ⟨by simpa [Nat.ble_eq] using h.len, ?_⟩
  unfold sidesL
  refine plainL_map _ _ fun i _ => ?_
  have m1 : IntKind.i64.min = -9223372036854775808 := by decide
  have m2 : IntKind.i64.max = 9223372036854775807 := by decide
  have a1 := rws_int h i 0
  have a2 := rws_int h i 1
  have a3 := rws_int h ((i + 1) % es.length) 0
  have a4 := rws_int h ((i + 1) % es.length) 1
  simp only [side, plain, plainL, m1, m2, Bool.and_true, Bool.and_eq_true, decide_eq_true_eq]
  exact ⟨a1, a2, a3, a4⟩
/-- A skin, by value. -/
structure Skin (a : AV) (os hs ms : List (List AV)) (sp tl th : Int) : Prop where
  eq : a = .agg [.rs 32 os, .rs 71 hs, .i .i64 sp, .i .i64 tl, .i .i64 th, .rs 46 ms]
  os : Rws 32 2 os
  hs : Rws 71 4 hs
  ms : Rws 46 4 ms
  sp : IntKind.i64.min ≤ sp ∧ sp ≤ IntKind.i64.max
  tl : IntKind.i64.min ≤ tl ∧ tl ≤ IntKind.i64.max
  th : IntKind.i64.min ≤ th ∧ th ≤ IntKind.i64.max
theorem skin_of {a : AV} (h : TyArg Try.prog 30 a) : ∃ os hs ms sp tl th, Skin a os hs ms sp tl th := by
  obtain ⟨bs, rfl, hw⟩ := ty_agg (c := [.sl 32, .sl 71, .int .i64, .int .i64, .int .i64, .sl 46]) (by kernel_rfl) (by kernel_rfl) h
  obtain ⟨b0, q0, rfl, w0, hw⟩ := WTs_cons hw
  obtain ⟨b1, q1, rfl, w1, hw⟩ := WTs_cons hw
  obtain ⟨b2, q2, rfl, w2, hw⟩ := WTs_cons hw
  obtain ⟨b3, q3, rfl, w3, hw⟩ := WTs_cons hw
  obtain ⟨b4, q4, rfl, w4, hw⟩ := WTs_cons hw
  obtain ⟨b5, q5, rfl, w5, hw⟩ := WTs_cons hw
  obtain rfl := WTs_nil hw
  obtain ⟨os, rfl, ho⟩ := rws_of (k := 2) (by kernel_rfl) w0
  obtain ⟨hs, rfl, hh⟩ := rws_of (k := 4) (by kernel_rfl) w1
  obtain ⟨sp, rfl, s1⟩ := WT_int w2
  obtain ⟨tl, rfl, s2⟩ := WT_int w3
  obtain ⟨th, rfl, s3⟩ := WT_int w4
  obtain ⟨ms, rfl, hm⟩ := rws_of (k := 4) (by kernel_rfl) w5
  exact ⟨os, hs, ms, sp, tl, th, rfl, ho, hh, hm, s1, s2, s3⟩
theorem pt_of {a : AV} (h : TyArg Try.prog 32 a) : ∃ u v, a = .agg [.i .i64 u, .i .i64 v] ∧ (IntKind.i64.min ≤ u ∧ u ≤ IntKind.i64.max) ∧ IntKind.i64.min ≤ v ∧ v ≤ IntKind.i64.max := by
  obtain ⟨bs, rfl, hw⟩ := ty_agg (c := [.int .i64, .int .i64]) (by kernel_rfl) (by kernel_rfl) h
  obtain ⟨b0, q0, rfl, w0, hw⟩ := WTs_cons hw
  obtain ⟨b1, q1, rfl, w1, hw⟩ := WTs_cons hw
  obtain rfl := WTs_nil hw
  obtain ⟨u, rfl, r1⟩ := WT_int w0
  obtain ⟨v, rfl, r2⟩ := WT_int w1
  exact ⟨u, v, rfl, r1, r2⟩
theorem Skin.ok {a : AV} {os hs ms : List (List AV)} {sp tl th : Int} (h : Skin a os hs ms sp tl th) : okA os hs ms = true := by
  unfold okA
  rw [okS_of h.os, show Nat.ble hs.length 9223372036854775807 = true by simpa [Nat.ble_eq] using h.hs.len, show Nat.ble ms.length 9223372036854775807 = true by simpa [Nat.ble_eq] using h.ms.len]
  rfl
theorem eq3 (os hs ms : List (List AV)) (sp tl th : Int) (pu pv : Int) : evF Try.prog Sm (ro 3) (fun _ _ => none) Try.f3 [.agg [.rs 32 os, .rs 71 hs, .i .i64 sp, .i .i64 tl, .i .i64 th, .rs 46 ms], .agg [.i .i64 pu, .i .i64 pv]] =
    cond (greatB os hs ms) (some (.b true)) (cond (okA os hs ms) (cond (okA os hs ms) (cond (okS os) (cond (checkW os hs ms sp tl th == checkR os hs ms sp tl th) (cond (pickZ (errW os hs ms sp tl th pu pv) (List.foldl (loI sp pu pv) tl ms) == pickZ (errR os hs ms sp tl th pu pv) (List.foldl (loI sp pu pv) tl ms) && pickZ (errW os hs ms sp tl th pu pv) (List.foldl (hiI sp pu pv) th ms) == pickZ (errR os hs ms sp tl th pu pv) (List.foldl (hiI sp pu pv) th ms)) (cond (errW os hs ms sp tl th pu pv == errR os hs ms sp tl th pu pv) (some (.b true)) (some (.b false))) (some (.b false))) (some (.b false))) (none)) (none)) (none)) := by kernel_rfl
theorem checks_law (avs : List AV) (h : TyArgs Try.prog Try.f3.params.toList avs) : Con Try.prog 3 avs (.b true) := by
  obtain ⟨a0, r0, rfl, h0, h⟩ := tyArgs_cons h
  obtain ⟨a1, r1, rfl, h1, h⟩ := tyArgs_cons h
  obtain rfl := tyArgs_nil h
  obtain ⟨os, hs, ms, sp, tl, th, hk⟩ := skin_of h0
  obtain ⟨u, v, rfl, _⟩ := pt_of h1
  obtain rfl := hk.eq
  refine con_plain Sm_ok Try.func3 rfl (by kernel_rfl) ?_
  have hok := hk.ok
  rw [eq3, hok, (okA_parts hok).1, check_eq, err_eq]
  simp
end Go.Proofs.Yteclfchlejocmaa
