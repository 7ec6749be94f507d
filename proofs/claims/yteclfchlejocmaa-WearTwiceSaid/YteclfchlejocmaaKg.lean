/-
  Two seasons take what one takes that takes both their spans, as far as nothing is gone below 0, and a season that takes nothing changes nothing, for every skin and any two seasons (statement WearTwice); this text is a part of that proof.
-/
import Derived.Test.YteclfchlejocmaaKe
import Derived.Test.YteclfchlejocmaaEc
set_option linter.unusedVariables false
set_option maxRecDepth 100000
set_option linter.unusedVariables false
namespace Go.Proofs.Yteclfchlejocmaa
open Go Go.Ev

theorem eq21 (a b c d : Int) : evF Try.prog Sm (ro 21) (fun _ _ => none) Try.f21 [.agg [.i .i64 a, .i .i64 b], .agg [.i .i64 c, .i .i64 d]] = some (.i .i64 (farI a b c d)) := by kernel_rfl
theorem con21 (a b c d : Int) : Con Try.prog 21 [.agg [.i .i64 a, .i .i64 b], .agg [.i .i64 c, .i .i64 d]] (.i .i64 (farI a b c d)) :=
  con_plain Sm_ok Try.func21 rfl (by kernel_rfl) (eq21 ..)
noncomputable def Sn : Ev.Spec := fun f args => match f, args with
  | 21, [.agg [.i .i64 a, .i .i64 b], .agg [.i .i64 c, .i .i64 d]] => some (true, .i .i64 (farI a b c d))
  | f, args => Sm f args
theorem Sn_ok : SpecOK Try.prog Sn := by
  intro f args pre v h hp
  unfold Sn at h
  split at h
  · cases h; exact con21 _ _ _ _
  · exact Sm_ok _ _ _ _ h hp
end Go.Proofs.Yteclfchlejocmaa

set_option maxRecDepth 100000
set_option linter.unusedVariables false
namespace Go.Proofs.Yteclfchlejocmaa
open Go Go.Ev

/-! ### WearSteep -/
noncomputable def c5 : Code := match Try.f5.body with | some c => c | _ => .skip
noncomputable def s5a (os : List (List AV)) (hs : List (List AV)) (sp : Int) (tl : Int) (th : Int) (ms : List (List AV)) (b_1 : Bool) (n_1 : Int) : St :=
  { t := [(3, .rp [.sl 32, .sl 71, .int .i64, .int .i64, .int .i64, .sl 46] [.rs 32 os, .rs 71 hs, .i .i64 sp, .i .i64 tl, .i .i64 th, .rs 46 ms] 0), (6, .b b_1), (12, .i .i64 n_1)], m := [], nx := 0, nt := 137 }
noncomputable def lp5a : Code := loopAt c5 [true, true, true, true, true, true, true, false, true, false]
noncomputable def ex5a (os : List (List AV)) (hs : List (List AV)) (sp : Int) (tl : Int) (th : Int) (ms : List (List AV)) (b_1 : Bool) (n_1 : Int) : Bool := (errW os hs ms sp tl th (cU (ms.getD n_1.toNat [])) (cV (ms.getD n_1.toNat [])) != 0) || ((decide (pickZ (errW os hs ms sp tl th (cU (ms.getD n_1.toNat [])) (cV (ms.getD n_1.toNat []))) (List.foldl (loI sp (cU (ms.getD n_1.toNat [])) (cV (ms.getD n_1.toNat []))) tl ms) < c2 (ms.getD n_1.toNat []))) || ((decide (pickZ (errW os hs ms sp tl th (cU (ms.getD n_1.toNat [])) (cV (ms.getD n_1.toNat []))) (List.foldl (hiI sp (cU (ms.getD n_1.toNat [])) (cV (ms.getD n_1.toNat []))) th ms) > c3 (ms.getD n_1.toNat []))) || (decide (pickZ (errW os hs ms sp tl th (cU (ms.getD n_1.toNat [])) (cV (ms.getD n_1.toNat []))) (List.foldl (loI sp (cU (ms.getD n_1.toNat [])) (cV (ms.getD n_1.toNat []))) tl ms) > pickZ (errW os hs ms sp tl th (cU (ms.getD n_1.toNat [])) (cV (ms.getD n_1.toNat []))) (List.foldl (hiI sp (cU (ms.getD n_1.toNat [])) (cV (ms.getD n_1.toNat []))) th ms)))))
noncomputable def df5a (os : List (List AV)) (hs : List (List AV)) (sp : Int) (tl : Int) (th : Int) (ms : List (List AV)) (b_1 : Bool) (n_1 : Int) : Bool := (inb n_1 ms.length) && (okA os hs ms)
noncomputable def q5a_0 (os : List (List AV)) (hs : List (List AV)) (sp : Int) (tl : Int) (th : Int) (ms : List (List AV)) (b_1 : Bool) (n_1 : Int) : Ex × St := (.ret, s5a os hs sp tl th ms false n_1)
noncomputable def q5a (os : List (List AV)) (hs : List (List AV)) (sp : Int) (tl : Int) (th : Int) (ms : List (List AV)) (b_1 : Bool) (n_1 : Int) : Ex × St := q5a_0 os hs sp tl th ms b_1 n_1
noncomputable def e5a (os : List (List AV)) (hs : List (List AV)) (sp : Int) (tl : Int) (th : Int) (ms : List (List AV)) (b_1 : Bool) (k : Nat) : Bool := ex5a os hs sp tl th ms b_1 ((k : Nat) : Int)
noncomputable def d5a (os : List (List AV)) (hs : List (List AV)) (sp : Int) (tl : Int) (th : Int) (ms : List (List AV)) (b_1 : Bool) (k : Nat) : Bool := df5a os hs sp tl th ms b_1 ((k : Nat) : Int)
noncomputable def st5a (os : List (List AV)) (hs : List (List AV)) (sp : Int) (tl : Int) (th : Int) (ms : List (List AV)) (b_1 : Bool) (k : Nat) : St := s5a os hs sp tl th ms b_1 ((k : Nat) : Int)
noncomputable def ou5a (os : List (List AV)) (hs : List (List AV)) (sp : Int) (tl : Int) (th : Int) (ms : List (List AV)) (b_1 : Bool) (k : Nat) : Ex × St := q5a os hs sp tl th ms b_1 ((k : Nat) : Int)
noncomputable def N5a (os : List (List AV)) (hs : List (List AV)) (sp : Int) (tl : Int) (th : Int) (ms : List (List AV)) (b_1 : Bool) : Nat := ((↑ms.length : Int) : Int).toNat
noncomputable def g5a (os : List (List AV)) (hs : List (List AV)) (sp : Int) (tl : Int) (th : Int) (ms : List (List AV)) (b_1 : Bool) : Bool := decide (((↑ms.length : Int) : Int) ≤ 9223372036854775807) && allN (d5a os hs sp tl th ms b_1) (N5a os hs sp tl th ms b_1)
noncomputable def l5a (st : St) : Option (List (Bool × Ex × St)) := match normV Try.prog [3, 6, 12] 0 st with
  | some ([.rp [.sl 32, .sl 71, .int .i64, .int .i64, .int .i64, .sl 46] [.rs 32 os, .rs 71 hs, .i .i64 sp, .i .i64 tl, .i .i64 th, .rs 46 ms] 0, .b b_1, .i .i64 (.ofNat 0)], [], 137) => some [(g5a os hs sp tl th ms b_1 && anyN (e5a os hs sp tl th ms b_1) (N5a os hs sp tl th ms b_1), .ret, (q5a_0 os hs sp tl th ms b_1 (((firstN (e5a os hs sp tl th ms b_1) (N5a os hs sp tl th ms b_1)) : Nat) : Int)).2), (g5a os hs sp tl th ms b_1, .ext 0, st5a os hs sp tl th ms b_1 (N5a os hs sp tl th ms b_1))]
  | _ => none
noncomputable def L5 : LSpec := fun p st => match p with
  | [false, true, false, true, true, true, true, true, true, true] => l5a st
  | _ => none
noncomputable def tr5a (os : List (List AV)) (hs : List (List AV)) (sp : Int) (tl : Int) (th : Int) (ms : List (List AV)) (b_1 : Bool) (n_1 : Int) : Option (Ex × St) := cond (inb n_1 ms.length) (cond (okA os hs ms) (cond (errW os hs ms sp tl th (cU (ms.getD n_1.toNat [])) (cV (ms.getD n_1.toNat [])) != 0) (some (.ret, s5a os hs sp tl th ms false n_1)) (cond (decide (pickZ (errW os hs ms sp tl th (cU (ms.getD n_1.toNat [])) (cV (ms.getD n_1.toNat []))) (List.foldl (loI sp (cU (ms.getD n_1.toNat [])) (cV (ms.getD n_1.toNat []))) tl ms) < c2 (ms.getD n_1.toNat []))) (some (.ret, s5a os hs sp tl th ms false n_1)) (cond (decide (pickZ (errW os hs ms sp tl th (cU (ms.getD n_1.toNat [])) (cV (ms.getD n_1.toNat []))) (List.foldl (hiI sp (cU (ms.getD n_1.toNat [])) (cV (ms.getD n_1.toNat []))) th ms) > c3 (ms.getD n_1.toNat []))) (some (.ret, s5a os hs sp tl th ms false n_1)) (cond (decide (pickZ (errW os hs ms sp tl th (cU (ms.getD n_1.toNat [])) (cV (ms.getD n_1.toNat []))) (List.foldl (loI sp (cU (ms.getD n_1.toNat [])) (cV (ms.getD n_1.toNat []))) tl ms) > pickZ (errW os hs ms sp tl th (cU (ms.getD n_1.toNat [])) (cV (ms.getD n_1.toNat []))) (List.foldl (hiI sp (cU (ms.getD n_1.toNat [])) (cV (ms.getD n_1.toNat []))) th ms))) (some (.ret, s5a os hs sp tl th ms false n_1)) (some (.nrm, s5a os hs sp tl th ms b_1 (IntKind.i64.wrap (n_1 + 1)))))))) (none)) (none)
theorem round5a (os : List (List AV)) (hs : List (List AV)) (sp : Int) (tl : Int) (th : Int) (ms : List (List AV)) (b_1 : Bool) (n_1 : Int) : round Try.prog Sn (ro 5) L5 lp5a [false, true, false, true, true, true, true, true, true, true] [3, 6, 12] 0 (s5a os hs sp tl th ms b_1 n_1) =
    cond (decide (n_1 < (↑ms.length : Int))) (tr5a os hs sp tl th ms b_1 n_1) (some (.ext 0, s5a os hs sp tl th ms b_1 n_1)) := by kernel_rfl
theorem step5a (os : List (List AV)) (hs : List (List AV)) (sp : Int) (tl : Int) (th : Int) (ms : List (List AV)) (b_1 : Bool) (n_1 : Int) (hd : df5a os hs sp tl th ms b_1 n_1 = true) : tr5a os hs sp tl th ms b_1 n_1 = cond (ex5a os hs sp tl th ms b_1 n_1) (some (q5a os hs sp tl th ms b_1 n_1)) (some (.nrm, s5a os hs sp tl th ms b_1 (IntKind.i64.wrap (n_1 + 1)))) := by
  unfold df5a at hd
  unfold ex5a q5a q5a_0 tr5a
  generalize (inb n_1 ms.length) = t0 at *
  generalize (okA os hs ms) = t1 at *
  generalize (errW os hs ms sp tl th (cU (ms.getD n_1.toNat [])) (cV (ms.getD n_1.toNat [])) != 0) = t2 at *
  generalize (decide (pickZ (errW os hs ms sp tl th (cU (ms.getD n_1.toNat [])) (cV (ms.getD n_1.toNat []))) (List.foldl (loI sp (cU (ms.getD n_1.toNat [])) (cV (ms.getD n_1.toNat []))) tl ms) < c2 (ms.getD n_1.toNat []))) = t3 at *
  generalize (decide (pickZ (errW os hs ms sp tl th (cU (ms.getD n_1.toNat [])) (cV (ms.getD n_1.toNat []))) (List.foldl (hiI sp (cU (ms.getD n_1.toNat [])) (cV (ms.getD n_1.toNat []))) th ms) > c3 (ms.getD n_1.toNat []))) = t4 at *
  generalize (decide (pickZ (errW os hs ms sp tl th (cU (ms.getD n_1.toNat [])) (cV (ms.getD n_1.toNat []))) (List.foldl (loI sp (cU (ms.getD n_1.toNat [])) (cV (ms.getD n_1.toNat []))) tl ms) > pickZ (errW os hs ms sp tl th (cU (ms.getD n_1.toNat [])) (cV (ms.getD n_1.toNat []))) (List.foldl (hiI sp (cU (ms.getD n_1.toNat [])) (cV (ms.getD n_1.toNat []))) th ms))) = t5 at *
  cases t0 <;> cases t1 <;> cases t2 <;> cases t3 <;> cases t4 <;> cases t5 <;> first | rfl | (cases hd)
theorem lok5a {st : St} {outs : List (Bool × Ex × St)} {e : Ex} {s : St} {lo : Nat} (hlo : lo ≤ st.nx) (hl : l5a st = some outs) (hch : Chosen outs e s) (hz : lo = 0) :
    ∃ keep nb, lo ≤ nb ∧ LB Try.prog Sn (ro 5) L5 lp5a [false, true, false, true, true, true, true, true, true, true] keep nb st e s := by
  unfold l5a at hl
  split at hl
  · rename_i os hs sp tl th ms b_1 hno
    cases hl
    have hno := normV_norm hno
    refine LB_forG (n := (N5a os hs sp tl th ms b_1)) (g := g5a os hs sp tl th ms b_1) (stI := fun k => st5a os hs sp tl th ms b_1 k) (ex := e5a os hs sp tl th ms b_1) (out := (fun k => ou5a os hs sp tl th ms b_1 k)) (fin := (.ext 0, st5a os hs sp tl th ms b_1 (N5a os hs sp tl th ms b_1))) hno (Nat.le_trans (Nat.le_of_eq hz) (Nat.zero_le _)) hch (fun k => by simp [ou5a, q5a, q5a_0]) (by simp) (fun hg => ?_)
    obtain ⟨hb, hall⟩ := Bool.and_eq_true_iff.1 hg
    have hb := of_decide_eq_true hb
    refine ⟨fun k hk => ?_, ?_⟩
    · have h1 := lt_toNat hk
      have hd := allN_at hall k hk
      have hw := wrap_succ h1 hb
      show round _ _ _ _ _ _ _ _ (s5a os hs sp tl th ms b_1 ((k : Nat) : Int)) = _
      rw [round5a, show decide _ = true from decide_eq_true h1, cond_true, step5a _ _ _ _ _ _ _ _ hd, hw]
      rfl
    · show round _ _ _ _ _ _ _ _ (s5a os hs sp tl th ms b_1 (((N5a os hs sp tl th ms b_1) : Nat) : Int)) = _
      rw [round5a, show decide ((((N5a os hs sp tl th ms b_1) : Nat) : Int) < ((↑ms.length : Int) : Int)) = false from not_lt_toNat]
      rfl
  · cases hl
theorem L5_ok (q : Pl) (c : Code) (hq : locate c5 q.reverse = some (.loop c)) (st : St) (outs : List (Bool × Ex × St)) (e : Ex) (s : St) (hl : L5 q st = some outs) (hch : Chosen outs e s) :
    ∃ keep nb, LB Try.prog Sn (ro 5) L5 c q keep nb st e s := by
  unfold L5 at hl
  split at hl
  · have : locate c5 ([false, true, false, true, true, true, true, true, true, true] : Pl).reverse = some (.loop lp5a) := by kernel_rfl
    rw [this] at hq
    cases hq
    obtain ⟨keep, nb, _, h⟩ := lok5a (lo := 0) (Nat.zero_le _) hl hch rfl
    exact ⟨keep, nb, h⟩
  · cases hl
theorem eq5 (os hs ms : List (List AV)) (sp tl th : Int) (pu pv qu qv : Int) : evF Try.prog Sn (ro 5) L5 Try.f5 [.agg [.rs 32 os, .rs 71 hs, .i .i64 sp, .i .i64 tl, .i .i64 th, .rs 46 ms], .agg [.i .i64 pu, .i .i64 pv], .agg [.i .i64 qu, .i .i64 qv]] =
    cond (greatB os hs ms) (some (.b true)) (cond (okA os hs ms) (cond (okA os hs ms) (cond (errW os hs ms sp tl th pu pv != 0) (some (.b true)) (cond (errW os hs ms sp tl th qu qv != 0) (some (.b true)) (cond (decide (pickZ (errW os hs ms sp tl th pu pv) (List.foldl (loI sp pu pv) tl ms) > pickZ (errW os hs ms sp tl th pu pv) (List.foldl (hiI sp pu pv) th ms))) (some (.b false)) (cond (decide (pickZ (errW os hs ms sp tl th qu qv) (List.foldl (loI sp qu qv) tl ms) > pickZ (errW os hs ms sp tl th qu qv) (List.foldl (hiI sp qu qv) th ms))) (some (.b false)) (cond (decide (IntKind.i64.wrap (pickZ (errW os hs ms sp tl th pu pv) (List.foldl (loI sp pu pv) tl ms) - pickZ (errW os hs ms sp tl th qu qv) (List.foldl (loI sp qu qv) tl ms)) > IntKind.i64.wrap (sp * farI pu pv qu qv))) (some (.b false)) (cond (decide (IntKind.i64.wrap (pickZ (errW os hs ms sp tl th qu qv) (List.foldl (loI sp qu qv) tl ms) - pickZ (errW os hs ms sp tl th pu pv) (List.foldl (loI sp pu pv) tl ms)) > IntKind.i64.wrap (sp * farI pu pv qu qv))) (some (.b false)) (cond (decide (IntKind.i64.wrap (pickZ (errW os hs ms sp tl th pu pv) (List.foldl (hiI sp pu pv) th ms) - pickZ (errW os hs ms sp tl th qu qv) (List.foldl (hiI sp qu qv) th ms)) > IntKind.i64.wrap (sp * farI pu pv qu qv))) (some (.b false)) (cond (decide (IntKind.i64.wrap (pickZ (errW os hs ms sp tl th qu qv) (List.foldl (hiI sp qu qv) th ms) - pickZ (errW os hs ms sp tl th pu pv) (List.foldl (hiI sp pu pv) th ms)) > IntKind.i64.wrap (sp * farI pu pv qu qv))) (some (.b false)) (cond (g5a os hs sp tl th ms false && anyN (e5a os hs sp tl th ms false) (N5a os hs sp tl th ms false)) (some (.b false)) (cond (g5a os hs sp tl th ms false) (some (.b true)) (none))))))))))) (none)) (none)) := by kernel_rfl
end Go.Proofs.Yteclfchlejocmaa

set_option maxRecDepth 100000
set_option linter.unusedVariables false
namespace Go.Proofs.Yteclfchlejocmaa
open Go Go.Ev

/-- A skin that may be. -/
structure Good (os hs ms : List (List AV)) (sp tl th : Int) : Prop where
  spn : 0 ≤ sp ∧ sp ≤ 1000
  tk : 0 ≤ tl ∧ tl ≤ th ∧ th ≤ 2000
  n : ms.length ≤ 40
  mks : ∀ e, e ∈ ms → MarkOK e
  has : ∀ i, i < ms.length → hasB os hs (cU (ms.getD i [])) (cV (ms.getD i [])) = true
  ord : anyN (ordW ms) ms.length = false
  cl : anyN (clashB sp tl th ms) ms.length = false
  out : outW os = 0
  nh : hs.length ≤ 6
  box : anyN (ex64a hs) hs.length = false
theorem good_of {os hs ms : List (List AV)} {sp tl th : Int} (h : checkW os hs ms sp tl th = 0) : Good os hs ms sp tl th := by
  unfold checkW at h
  cases h0 : outW os != 0
  · rw [h0] at h
    cases h1 : decide (((hs.length : Nat) : Int) > 6)
    · rw [h1] at h
      cases h2 : anyN (ex64a hs) hs.length
      · rw [h2] at h
        cases h3 : inB sp 0 1000
        · rw [h3] at h; simp at h
        · rw [h3] at h
          cases h4 : spB tl th 2000
          · rw [h4] at h; simp at h
          · rw [h4] at h
            cases h5 : decide (((ms.length : Nat) : Int) > 40)
            · rw [h5] at h
              cases h6 : anyN (mkW os hs ms) ms.length
              · rw [h6] at h
                cases h7 : anyN (ordW ms) ms.length
                · rw [h7] at h
                  cases h8 : anyN (bndW sp tl th ms) ms.length
                  · have hm := marks_ok h6
                    have e3 := inB_true.1 h3
                    have e4 := spB_true.1 h4
                    have e1 := of_decide_eq_false h1
                    have e5 := of_decide_eq_false h5
                    refine ⟨e3, e4, by omega, hm, fun i hi => ?_, h7, by rw [← clash_eq e3 e4 hm]; exact h8, by simpa using h0, by omega, h2⟩
                    have := anyN_false h6 hi
                    unfold mkW at this
                    have := (Bool.or_eq_false_iff.1 this).1
                    simpa using this
                  · rw [h8] at h; simp at h
                · rw [h7] at h; simp at h
              · rw [h6] at h
                revert h
                cases hasB os hs (cU (ms.getD (firstN (mkW os hs ms) ms.length) [])) (cV (ms.getD (firstN (mkW os hs ms) ms.length) [])) <;> intro h <;> simp at h
            · rw [h5] at h; simp at h
      · rw [h2] at h; simp at h
    · rw [h1] at h; simp at h
  · rw [h0] at h
    have : outW os ≠ 0 := by simpa using h0
    exact absurd (show outW os = 0 from h) this
theorem err_zero {os hs ms : List (List AV)} {sp tl th pu pv : Int} (h : (errW os hs ms sp tl th pu pv != 0) = false) : Good os hs ms sp tl th ∧ checkW os hs ms sp tl th = 0 ∧ hasB os hs pu pv = true ∧ errW os hs ms sp tl th pu pv = 0 := by
  have h0 : errW os hs ms sp tl th pu pv = 0 := by simpa using h
  have h1 := h0
  unfold errW at h1
  cases hc : checkW os hs ms sp tl th != 0
  · rw [hc] at h1
    have hc : checkW os hs ms sp tl th = 0 := by simpa using hc
    cases hh : hasB os hs pu pv
    · rw [hh] at h1; simp at h1
    · exact ⟨good_of hc, hc, rfl, h0⟩
  · rw [hc] at h1
    have : checkW os hs ms sp tl th ≠ 0 := by simpa using hc
    exact absurd (show checkW os hs ms sp tl th = 0 from h1) this
theorem err_of {os hs ms : List (List AV)} {sp tl th pu pv : Int} (hc : checkW os hs ms sp tl th = 0) (hh : hasB os hs pu pv = true) : errW os hs ms sp tl th pu pv = 0 := by
  unfold errW
  rw [hc, hh]
  rfl
theorem has_in {os hs : List (List AV)} {pu pv : Int} (h : hasB os hs pu pv = true) : In4 pu ∧ In4 pv := by
  unfold hasB plB at h
  simp only [Bool.and_eq_true, inB_true] at h
  exact h.1

def LoF (ms : List (List AV)) (sp tl pu pv : Int) : Int := ms.foldl (loI sp pu pv) tl
def HiF (ms : List (List AV)) (sp th pu pv : Int) : Int := ms.foldl (hiI sp pu pv) th
section
variable {os hs ms : List (List AV)} {sp tl th : Int}
theorem Good.low_high (g : Good os hs ms sp tl th) {pu pv : Int} (hu : In4 pu) (hv : In4 pv) : LoF ms sp tl pu pv ≤ HiF ms sp th pu pv := by
  unfold LoF HiF
  refine Int.not_lt.1 fun hlt => ?_
  have hcl : ∀ i k, i < ms.length → k < ms.length → clashE sp ms i k = decide (c2 (ms.getD i []) > c3 (ms.getD k []) + dX sp (cU (ms.getD i [])) (cV (ms.getD i [])) (ms.getD k [])) := fun i k hi hk => by
    unfold clashE
    have h1 := g.mks _ (getD_mem hi)
    rw [hi_eq g.spn h1.u h1.v (g.mks _ (getD_mem hk))]
  have no : ∀ k, k < ms.length → clashB sp tl th ms k = false := fun k hk => anyN_false g.cl hk
  obtain ⟨t0, t1, t2⟩ := g.tk
  obtain ⟨_, _, l3⟩ := lows (tl := tl) g.spn hu hv g.mks
  obtain ⟨_, _, u3⟩ := highs (th := th) g.spn hu hv g.mks
  rcases l3 with l3 | ⟨e, he, l3⟩ <;> rcases u3 with u3 | ⟨f, hf, u3⟩
  · omega
  · obtain ⟨k, hk, rfl⟩ := mem_getD hf
    have := (dist_eq g.spn hu hv (g.mks _ hf)).2.1
    have h := no k hk
    unfold clashB at h
    rw [show decide (c3 (ms.getD k []) < tl) = true from decide_eq_true (by omega)] at h
    simp at h
  · obtain ⟨k, hk, rfl⟩ := mem_getD he
    have := (dist_eq g.spn hu hv (g.mks _ he)).2.1
    have h := no k hk
    unfold clashB at h
    rw [show decide (c2 (ms.getD k []) > th) = true from decide_eq_true (by omega)] at h
    simp at h
  · obtain ⟨k, hk, rfl⟩ := mem_getD he
    obtain ⟨l, hl, rfl⟩ := mem_getD hf
    have ht3 := dX_tri g.spn.1 pu pv (ms.getD k []) (ms.getD l [])
    have h := no k hk
    unfold clashB at h
    have : anyN (clashE sp ms k) ms.length = true := anyN_iff.2 ⟨l, hl, by rw [hcl k l hk hl]; exact decide_eq_true (by omega)⟩
    rw [this] at h
    simp at h
theorem Good.range (g : Good os hs ms sp tl th) {pu pv : Int} (hu : In4 pu) (hv : In4 pv) : 0 ≤ LoF ms sp tl pu pv ∧ HiF ms sp th pu pv ≤ 2000 := by
  have := (lows (tl := tl) g.spn hu hv g.mks).1
  have := (highs (th := th) g.spn hu hv g.mks).1
  have := g.tk
  unfold LoF HiF
  omega
theorem dX_step (h0 : 0 ≤ sp) (a b c d : Int) (e : List AV) : dX sp a b e ≤ sp * farX a b c d + dX sp c d e := by
  unfold dX
  rw [← Int.mul_add]
  exact Int.mul_le_mul_of_nonneg_left (farX_tri a b c d _ _) h0
theorem Good.lip_lo (g : Good os hs ms sp tl th) {pu pv qu qv : Int} (hu : In4 pu) (hv : In4 pv) (hu' : In4 qu) (hv' : In4 qv) : LoF ms sp tl pu pv - LoF ms sp tl qu qv ≤ sp * farX pu pv qu qv := by
  obtain ⟨a1, a2, a3⟩ := lows (tl := tl) g.spn hu hv g.mks
  obtain ⟨b1, b2, b3⟩ := lows (tl := tl) g.spn hu' hv' g.mks
  have h0 : 0 ≤ sp * farX pu pv qu qv := Int.mul_nonneg g.spn.1 (farX_nonneg _ _ _ _)
  unfold LoF
  rcases a3 with a3 | ⟨e, he, a3⟩
  · omega
  · have := b2 e he
    have h := dX_step g.spn.1 qu qv pu pv e
    rw [farX_sym qu qv pu pv] at h
    omega
theorem Good.lip_hi (g : Good os hs ms sp tl th) {pu pv qu qv : Int} (hu : In4 pu) (hv : In4 pv) (hu' : In4 qu) (hv' : In4 qv) : HiF ms sp th pu pv - HiF ms sp th qu qv ≤ sp * farX pu pv qu qv := by
  obtain ⟨a1, a2, a3⟩ := highs (th := th) g.spn hu hv g.mks
  obtain ⟨b1, b2, b3⟩ := highs (th := th) g.spn hu' hv' g.mks
  have h0 : 0 ≤ sp * farX pu pv qu qv := Int.mul_nonneg g.spn.1 (farX_nonneg _ _ _ _)
  unfold HiF
  rcases b3 with b3 | ⟨e, he, b3⟩
  · omega
  · have := a2 e he
    have h := dX_step g.spn.1 pu pv qu qv e
    omega
theorem Good.at (g : Good os hs ms sp tl th) {i : Nat} (hi : i < ms.length) : c2 (ms.getD i []) ≤ LoF ms sp tl (cU (ms.getD i [])) (cV (ms.getD i [])) ∧ HiF ms sp th (cU (ms.getD i [])) (cV (ms.getD i [])) ≤ c3 (ms.getD i []) := by
  have h1 := g.mks _ (getD_mem hi)
  have l := (lows (tl := tl) g.spn h1.u h1.v g.mks).2.1 _ (getD_mem hi)
  have u := (highs (th := th) g.spn h1.u h1.v g.mks).2.1 _ (getD_mem hi)
  rw [dX_self] at l u
  unfold LoF HiF
  omega
end
theorem steep_law (avs : List AV) (h : TyArgs Try.prog Try.f5.params.toList avs) : Con Try.prog 5 avs (.b true) := by
  obtain ⟨a0, r0, rfl, h0, h⟩ := tyArgs_cons h
  obtain ⟨a1, r1, rfl, h1, h⟩ := tyArgs_cons h
  obtain ⟨a2, r2, rfl, h2, h⟩ := tyArgs_cons h
  obtain rfl := tyArgs_nil h
  obtain ⟨os, hs, ms, sp, tl, th, hk⟩ := skin_of h0
  obtain ⟨pu, pv, rfl, _⟩ := pt_of h1
  obtain ⟨qu, qv, rfl, _⟩ := pt_of h2
  obtain rfl := hk.eq
  have hok := hk.ok
  refine con_of Sn_ok mixed Try.func5 (c := c5) rfl (names 5 _ Try.func5) (lok_of L5_ok c5 [] false (locate_nil _) (by kernel_rfl)) ?_
  rw [eq5, hok]
  cases greatB os hs ms
  · cases e1 : errW os hs ms sp tl th pu pv != 0
    · cases e2 : errW os hs ms sp tl th qu qv != 0
      · obtain ⟨g, hc, hp, z1⟩ := err_zero e1
        obtain ⟨_, _, hq, z2⟩ := err_zero e2
        obtain ⟨u1, v1⟩ := has_in hp
        obtain ⟨u2, v2⟩ := has_in hq
        rw [z1, z2]
        have p1 := g.low_high u1 v1
        have p2 := g.low_high u2 v2
        have r1 := g.range u1 v1
        have r2 := g.range u2 v2
        have f1 := farI_eq u1 v1 u2 v2
        have f0 := farX_nonneg pu pv qu qv
        have m := mulb g.spn.1 g.spn.2 f0 f1.2
        have l1 := g.lip_lo u1 v1 u2 v2
        have l2 := g.lip_lo u2 v2 u1 v1
        have k1 := g.lip_hi u1 v1 u2 v2
        have k2 := g.lip_hi u2 v2 u1 v1
        rw [farX_sym qu qv pu pv] at l2 k2
        have ew : IntKind.i64.wrap (sp * farX pu pv qu qv) = sp * farX pu pv qu qv := wrap_id (by omega) (by omega)
        show cond _ _ (cond _ (cond _ (cond _ _ (cond _ _ (cond (decide (LoF ms sp tl pu pv > HiF ms sp th pu pv)) _ (cond (decide (LoF ms sp tl qu qv > HiF ms sp th qu qv)) _
          (cond (decide (IntKind.i64.wrap (LoF ms sp tl pu pv - LoF ms sp tl qu qv) > IntKind.i64.wrap (sp * farI pu pv qu qv))) _ (cond (decide (IntKind.i64.wrap (LoF ms sp tl qu qv - LoF ms sp tl pu pv) > IntKind.i64.wrap (sp * farI pu pv qu qv))) _
          (cond (decide (IntKind.i64.wrap (HiF ms sp th pu pv - HiF ms sp th qu qv) > IntKind.i64.wrap (sp * farI pu pv qu qv))) _ (cond (decide (IntKind.i64.wrap (HiF ms sp th qu qv - HiF ms sp th pu pv) > IntKind.i64.wrap (sp * farI pu pv qu qv))) _ _)))))))) _) _) = _
        rw [f1.1, ew]
        rw [show IntKind.i64.wrap (LoF ms sp tl pu pv - LoF ms sp tl qu qv) = LoF ms sp tl pu pv - LoF ms sp tl qu qv from wrap_id (by omega) (by omega),
          show IntKind.i64.wrap (LoF ms sp tl qu qv - LoF ms sp tl pu pv) = LoF ms sp tl qu qv - LoF ms sp tl pu pv from wrap_id (by omega) (by omega),
          show IntKind.i64.wrap (HiF ms sp th pu pv - HiF ms sp th qu qv) = HiF ms sp th pu pv - HiF ms sp th qu qv from wrap_id (by omega) (by omega),
          show IntKind.i64.wrap (HiF ms sp th qu qv - HiF ms sp th pu pv) = HiF ms sp th qu qv - HiF ms sp th pu pv from wrap_id (by omega) (by omega)]
        rw [show decide (LoF ms sp tl pu pv > HiF ms sp th pu pv) = false from decide_eq_false (by omega), show decide (LoF ms sp tl qu qv > HiF ms sp th qu qv) = false from decide_eq_false (by omega),
          show decide (LoF ms sp tl pu pv - LoF ms sp tl qu qv > sp * farX pu pv qu qv) = false from decide_eq_false (by omega), show decide (LoF ms sp tl qu qv - LoF ms sp tl pu pv > sp * farX pu pv qu qv) = false from decide_eq_false (by omega),
          show decide (HiF ms sp th pu pv - HiF ms sp th qu qv > sp * farX pu pv qu qv) = false from decide_eq_false (by omega), show decide (HiF ms sp th qu qv - HiF ms sp th pu pv > sp * farX pu pv qu qv) = false from decide_eq_false (by omega)]
        have gg : g5a os hs sp tl th ms false = true := by
          unfold g5a
          rw [Bool.and_eq_true]
          refine ⟨le64 hk.ms.len, allN_of fun i hi => ?_⟩
          have hi : i < ms.length := hi
          unfold d5a df5a
          rw [inb_nat hi, hok]
          rfl
        have ee : anyN (e5a os hs sp tl th ms false) (N5a os hs sp tl th ms false) = false := by
          rw [← anyN_const_false (N5a os hs sp tl th ms false)]
          refine anyN_congr fun i hi => ?_
          have hi : i < ms.length := hi
          have h1 := g.mks _ (getD_mem hi)
          have z := err_of hc (g.has i hi)
          have q := g.low_high h1.u h1.v
          obtain ⟨q1, q2⟩ := g.at hi
          unfold e5a ex5a
          rw [Int.toNat_natCast, z]
          show (false || (decide (LoF ms sp tl (cU (ms.getD i [])) (cV (ms.getD i [])) < c2 (ms.getD i [])) || (decide (HiF ms sp th (cU (ms.getD i [])) (cV (ms.getD i [])) > c3 (ms.getD i [])) || decide (LoF ms sp tl (cU (ms.getD i [])) (cV (ms.getD i [])) > HiF ms sp th (cU (ms.getD i [])) (cV (ms.getD i [])))))) = false
          rw [show decide (LoF ms sp tl (cU (ms.getD i [])) (cV (ms.getD i [])) < c2 (ms.getD i [])) = false from decide_eq_false (by omega), show decide (HiF ms sp th (cU (ms.getD i [])) (cV (ms.getD i [])) > c3 (ms.getD i [])) = false from decide_eq_false (by omega),
            show decide (LoF ms sp tl (cU (ms.getD i [])) (cV (ms.getD i [])) > HiF ms sp th (cU (ms.getD i [])) (cV (ms.getD i []))) = false from decide_eq_false (by omega)]
          rfl
        rw [gg, ee]
        rfl
      · rfl
    · rfl
  · rfl
end Go.Proofs.Yteclfchlejocmaa

set_option maxRecDepth 100000
set_option linter.unusedVariables false
namespace Go.Proofs.Yteclfchlejocmaa
open Go Go.Ev

theorem con_plainO {S : Ev.Spec} (hs : SpecOK Try.prog S) {f : FuncId} {fn : Func} {args : List AV} {v : AV} (hf : Try.prog.funcs[f]? = some fn) {c : Code} (hb : fn.body = some c) (hn : nest false c = true) (he : evFO Try.prog S (ro f) (fun _ _ => none) fn args = some v) : Con Try.prog f args v :=
  con_ofO hs mixed hf hb (names f fn hf) (lok_auto (I := fun _ _ => none) (fun _ _ _ h => by cases h) c 0 0 c [] 0 false (locate_nil c) hn) he

/-! ### slices.Clone -/
theorem half {n k : Nat} (h : n ≤ 1000000000) (hk : k ≤ 64) : Nat.ble (n * k) 140737488355328 = true := by
  have := Nat.mul_le_mul h hk
  simp [Nat.ble_eq]; omega
theorem eq68c (x : List AV) (r : List (List AV)) : evF Try.prog Sn (ro 68) (fun _ _ => none) Try.f68 [.rs 32 (x :: r)] =
    cond (((x :: r).length * Try.prog.types[32].bytes).ble 140737488355328) (cond ((0 + (x :: r).length).ble (x :: r).length) (some (.rs 32 (bif (x :: r).length.beq (x :: r).length then x :: r else List.take (x :: r).length (List.drop 0 (x :: r))))) (none)) (none) := by kernel_rfl
theorem eq68e : evF Try.prog Sn (ro 68) (fun _ _ => none) Try.f68 [.e0 false] = some (.rs 32 []) := by kernel_rfl
theorem eq68n  : evF Try.prog Sn (ro 68) (fun _ _ => none) Try.f68 [.nl] =
    some (.nl) := by kernel_rfl
theorem con68 (es : List (List AV)) (h : es.length ≤ 1000000000) : Con Try.prog 68 [.rs 32 es] (.rs 32 es) := by
  cases es with
  | nil => exact con_nil (con_plain Sn_ok Try.func68 rfl (by kernel_rfl) eq68n) (con_plain Sn_ok Try.func68 rfl (by kernel_rfl) eq68e) fun _ _ _ _ => res_nl_rs
  | cons x r =>
    refine con_plain Sn_ok Try.func68 rfl (by kernel_rfl) ?_
    have hb : Nat.ble ((x :: r).length * Try.prog.types[32].bytes) 140737488355328 = true := half h (show Try.prog.types[32].bytes ≤ 64 by decide +kernel)
    rw [eq68c, hb, show Nat.ble (0 + (x :: r).length) (x :: r).length = true by simp [Nat.ble_eq], Nat.beq_refl]
    rfl
theorem eq69c (x : List AV) (r : List (List AV)) : evF Try.prog Sn (ro 69) (fun _ _ => none) Try.f69 [.rs 71 (x :: r)] =
    cond (((x :: r).length * Try.prog.types[71].bytes).ble 140737488355328) (cond ((0 + (x :: r).length).ble (x :: r).length) (some (.rs 71 (bif (x :: r).length.beq (x :: r).length then x :: r else List.take (x :: r).length (List.drop 0 (x :: r))))) (none)) (none) := by kernel_rfl
theorem eq69e : evF Try.prog Sn (ro 69) (fun _ _ => none) Try.f69 [.e0 false] = some (.rs 71 []) := by kernel_rfl
theorem eq69n  : evF Try.prog Sn (ro 69) (fun _ _ => none) Try.f69 [.nl] =
    some (.nl) := by kernel_rfl
theorem con69 (es : List (List AV)) (h : es.length ≤ 1000000000) : Con Try.prog 69 [.rs 71 es] (.rs 71 es) := by
  cases es with
  | nil => exact con_nil (con_plain Sn_ok Try.func69 rfl (by kernel_rfl) eq69n) (con_plain Sn_ok Try.func69 rfl (by kernel_rfl) eq69e) fun _ _ _ _ => res_nl_rs
  | cons x r =>
    refine con_plain Sn_ok Try.func69 rfl (by kernel_rfl) ?_
    have hb : Nat.ble ((x :: r).length * Try.prog.types[71].bytes) 140737488355328 = true := half h (show Try.prog.types[71].bytes ≤ 64 by decide +kernel)
    rw [eq69c, hb, show Nat.ble (0 + (x :: r).length) (x :: r).length = true by simp [Nat.ble_eq], Nat.beq_refl]
    rfl
theorem eq70c (x : List AV) (r : List (List AV)) : evF Try.prog Sn (ro 70) (fun _ _ => none) Try.f70 [.rs 46 (x :: r)] =
    cond (((x :: r).length * Try.prog.types[46].bytes).ble 140737488355328) (cond ((0 + (x :: r).length).ble (x :: r).length) (some (.rs 46 (bif (x :: r).length.beq (x :: r).length then x :: r else List.take (x :: r).length (List.drop 0 (x :: r))))) (none)) (none) := by kernel_rfl
theorem eq70e : evF Try.prog Sn (ro 70) (fun _ _ => none) Try.f70 [.e0 false] = some (.rs 46 []) := by kernel_rfl
theorem eq70n  : evF Try.prog Sn (ro 70) (fun _ _ => none) Try.f70 [.nl] =
    some (.nl) := by kernel_rfl
theorem con70 (es : List (List AV)) (h : es.length ≤ 1000000000) : Con Try.prog 70 [.rs 46 es] (.rs 46 es) := by
  cases es with
  | nil => exact con_nil (con_plain Sn_ok Try.func70 rfl (by kernel_rfl) eq70n) (con_plain Sn_ok Try.func70 rfl (by kernel_rfl) eq70e) fun _ _ _ _ => res_nl_rs
  | cons x r =>
    refine con_plain Sn_ok Try.func70 rfl (by kernel_rfl) ?_
    have hb : Nat.ble ((x :: r).length * Try.prog.types[46].bytes) 140737488355328 = true := half h (show Try.prog.types[46].bytes ≤ 64 by decide +kernel)
    rw [eq70c, hb, show Nat.ble (0 + (x :: r).length) (x :: r).length = true by simp [Nat.ble_eq], Nat.beq_refl]
    rfl
theorem eq70co (x : List AV) (r : List (List AV)) : evFO Try.prog Sn (ro 70) (fun _ _ => none) Try.f70 [.rs 46 (x :: r)] =
    cond (((x :: r).length * Try.prog.types[46].bytes).ble 140737488355328) (some (.ow 46 (x :: r) (.sl 0 0 ((x :: r).length)))) (none) := by kernel_rfl
theorem eq70eo : evFO Try.prog Sn (ro 70) (fun _ _ => none) Try.f70 [.e0 false] = some (.ow 46 [] (.sl 0 0 0)) := by kernel_rfl
theorem con70o (es : List (List AV)) (h : es.length ≤ 1000000000) : Con Try.prog 70 [.rs 46 es] (.ow 46 es (.sl 0 0 es.length)) := by
  cases es with
  | nil => exact con_nil (con_plain Sn_ok Try.func70 rfl (by kernel_rfl) eq70n) (con_plainO Sn_ok Try.func70 rfl (by kernel_rfl) eq70eo) fun _ _ _ _ => res_nl_ow
  | cons x r =>
    refine con_plainO Sn_ok Try.func70 rfl (by kernel_rfl) ?_
    have hb : Nat.ble ((x :: r).length * Try.prog.types[46].bytes) 140737488355328 = true := half h (show Try.prog.types[46].bytes ≤ 64 by decide +kernel)
    rw [eq70co, hb]
    rfl
theorem eq48 (a b c d : Int) : evF Try.prog Sn (ro 48) (fun _ _ => none) Try.f48 [.agg [.i .i64 a, .i .i64 b], .agg [.i .i64 c, .i .i64 d]] =
    some (.agg [.i .i64 (bmax (IntKind.i64.wrap (a - d)) 0), .i .i64 (bmax (IntKind.i64.wrap (b - c)) 0)]) := by kernel_rfl
theorem eq50 (a b c d : Int) : evF Try.prog Sn (ro 50) (fun _ _ => none) Try.f50 [.agg [.i .i64 a, .i .i64 b], .agg [.i .i64 c, .i .i64 d]] =
    some (.agg [.i .i64 (bmax 0 (IntKind.i64.wrap (a - d))), .i .i64 (bmax 0 (IntKind.i64.wrap (b - c)))]) := by kernel_rfl
theorem con48 (a b c d : Int) : Con Try.prog 48 [.agg [.i .i64 a, .i .i64 b], .agg [.i .i64 c, .i .i64 d]] (.agg [.i .i64 (bmax (Wr (a - d)) 0), .i .i64 (bmax (Wr (b - c)) 0)]) := con_plain Sn_ok Try.func48 rfl (by kernel_rfl) (eq48 ..)
theorem con50 (a b c d : Int) : Con Try.prog 50 [.agg [.i .i64 a, .i .i64 b], .agg [.i .i64 c, .i .i64 d]] (.agg [.i .i64 (bmax 0 (Wr (a - d))), .i .i64 (bmax 0 (Wr (b - c)))]) := con_plain Sn_ok Try.func50 rfl (by kernel_rfl) (eq50 ..)
noncomputable def So : Ev.Spec := fun f args => match f, args with
  | 68, [.rs 32 es] => some (Nat.ble es.length 1000000000, .rs 32 es)
  | 69, [.rs 71 es] => some (Nat.ble es.length 1000000000, .rs 71 es)
  | 70, [.rs 46 es] => some (Nat.ble es.length 1000000000, .ow 46 es (.sl 0 0 es.length))
  | 48, [.agg [.i .i64 a, .i .i64 b], .agg [.i .i64 c, .i .i64 d]] => some (true, .agg [.i .i64 (bmax (Wr (a - d)) 0), .i .i64 (bmax (Wr (b - c)) 0)])
  | 50, [.agg [.i .i64 a, .i .i64 b], .agg [.i .i64 c, .i .i64 d]] => some (true, .agg [.i .i64 (bmax 0 (Wr (a - d))), .i .i64 (bmax 0 (Wr (b - c)))])
  | f, args => Sn f args
theorem So_ok : SpecOK Try.prog So := by
  intro f args pre v h hp
  unfold So at h
  split at h
  · cases h; exact con68 _ (Nat.le_of_ble_eq_true hp)
  · cases h; exact con69 _ (Nat.le_of_ble_eq_true hp)
  · cases h; exact con70o _ (Nat.le_of_ble_eq_true hp)
  · cases h; exact con48 _ _ _ _
  · cases h; exact con50 _ _ _ _
  · exact Sn_ok _ _ _ _ h hp
end Go.Proofs.Yteclfchlejocmaa

set_option maxRecDepth 100000
set_option linter.unusedVariables false
namespace Go.Proofs.Yteclfchlejocmaa
open Go Go.Ev

def smA (os hs ms : List (List AV)) : Bool := Nat.ble os.length 1000000000 && (Nat.ble hs.length 1000000000 && Nat.ble ms.length 1000000000)
theorem smA_parts {os hs ms : List (List AV)} (h : smA os hs ms = true) : Nat.ble os.length 1000000000 = true ∧ Nat.ble hs.length 1000000000 = true ∧ Nat.ble ms.length 1000000000 = true := by
  unfold smA at h
  simp only [Bool.and_eq_true] at h
  exact h
def twinT (os hs ms : List (List AV)) (sp tl th : Int) : AV := .ow 46 ms (.agg [.rs 32 os, .rs 71 hs, .i .i64 sp, .i .i64 tl, .i .i64 th, .sl 0 0 ms.length])
theorem eq47 (os hs ms : List (List AV)) (sp tl th : Int) : evFO Try.prog So (ro 47) (fun _ _ => none) Try.f47 [.agg [.rs 32 os, .rs 71 hs, .i .i64 sp, .i .i64 tl, .i .i64 th, .rs 46 ms]] =
    cond (os.length.ble 1000000000) (cond (hs.length.ble 1000000000) (cond (ms.length.ble 1000000000) (some (.ow 46 ms (.agg [.rs 32 os, .rs 71 hs, .i .i64 sp, .i .i64 tl, .i .i64 th, .sl 0 0 ms.length]))) (none)) (none)) (none) := by kernel_rfl
theorem con47 (os hs ms : List (List AV)) (sp tl th : Int) (h : smA os hs ms = true) : Con Try.prog 47 [.agg [.rs 32 os, .rs 71 hs, .i .i64 sp, .i .i64 tl, .i .i64 th, .rs 46 ms]] (twinT os hs ms sp tl th) := by
  refine con_plainO So_ok Try.func47 rfl (by kernel_rfl) ?_
  obtain ⟨h1, h2, h3⟩ := smA_parts h
  rw [eq47, h1, h2, h3]
  rfl
theorem eq49 (os hs ms : List (List AV)) (sp tl th : Int) : evFO Try.prog So (ro 49) (fun _ _ => none) Try.f49 [.agg [.rs 32 os, .rs 71 hs, .i .i64 sp, .i .i64 tl, .i .i64 th, .rs 46 ms]] =
    cond ((os.length * Try.prog.types[32].bytes).ble 140737488355328) (cond ((hs.length * Try.prog.types[71].bytes).ble 140737488355328) (cond ((ms.length * Try.prog.types[46].bytes).ble 140737488355328) (cond ((0 + os.length).ble os.length) (cond ((0 + hs.length).ble hs.length) (some (.ow 46 ms (.agg [.rs 32 (bif os.length.beq os.length then os else List.take os.length (List.drop 0 os)), .rs 71 (bif hs.length.beq hs.length then hs else List.take hs.length (List.drop 0 hs)), .i .i64 sp, .i .i64 tl, .i .i64 th, .sl 0 0 ms.length]))) (none)) (none)) (none)) (none)) (none) := by kernel_rfl
theorem con49 (os hs ms : List (List AV)) (sp tl th : Int) (h : smA os hs ms = true) : Con Try.prog 49 [.agg [.rs 32 os, .rs 71 hs, .i .i64 sp, .i .i64 tl, .i .i64 th, .rs 46 ms]] (twinT os hs ms sp tl th) := by
  refine con_plainO So_ok Try.func49 rfl (by kernel_rfl) ?_
  obtain ⟨h1, h2, h3⟩ := smA_parts h
  rw [eq49, half (Nat.le_of_ble_eq_true h1) (show Try.prog.types[32].bytes ≤ 64 by decide +kernel), half (Nat.le_of_ble_eq_true h2) (show Try.prog.types[71].bytes ≤ 64 by decide +kernel), half (Nat.le_of_ble_eq_true h3) (show Try.prog.types[46].bytes ≤ 64 by decide +kernel),
    show Nat.ble (0 + os.length) os.length = true by simp [Nat.ble_eq], show Nat.ble (0 + hs.length) hs.length = true by simp [Nat.ble_eq], Nat.beq_refl, Nat.beq_refl]
  rfl
noncomputable def Sp : Ev.Spec := fun f args => match f, args with
  | 47, [.agg [.rs 32 os, .rs 71 hs, .i .i64 sp, .i .i64 tl, .i .i64 th, .rs 46 ms]] => some (smA os hs ms, .ow 46 ms (.agg [.rs 32 os, .rs 71 hs, .i .i64 sp, .i .i64 tl, .i .i64 th, .sl 0 0 ms.length]))
  | 49, [.agg [.rs 32 os, .rs 71 hs, .i .i64 sp, .i .i64 tl, .i .i64 th, .rs 46 ms]] => some (smA os hs ms, .ow 46 ms (.agg [.rs 32 os, .rs 71 hs, .i .i64 sp, .i .i64 tl, .i .i64 th, .sl 0 0 ms.length]))
  | f, args => So f args
theorem Sp_ok : SpecOK Try.prog Sp := by
  intro f args pre v h hp
  unfold Sp at h
  split at h
  · cases h; exact con47 _ _ _ _ _ _ hp
  · cases h; exact con49 _ _ _ _ _ _ hp
  · exact So_ok _ _ _ _ h hp
end Go.Proofs.Yteclfchlejocmaa

set_option maxRecDepth 100000
set_option linter.unusedVariables false
namespace Go.Proofs.Yteclfchlejocmaa
open Go Go.Ev

/-! ### Same -/
noncomputable def c24 : Code := match Try.f24.body with | some c => c | _ => .skip
noncomputable def s24a (os : List (List AV)) (hs : List (List AV)) (sp : Int) (tl : Int) (th : Int) (ms : List (List AV)) (xs_1 : List (List AV)) (xs_2 : List (List AV)) (n_1 : Int) (n_2 : Int) (n_3 : Int) (xs_3 : List (List AV)) (b_1 : Bool) (n_4 : Int) : St :=
  { t := [(2, .rp [.sl 32, .sl 71, .int .i64, .int .i64, .int .i64, .sl 46] [.rs 32 os, .rs 71 hs, .i .i64 sp, .i .i64 tl, .i .i64 th, .rs 46 ms] 0), (3, .rp [.sl 32, .sl 71, .int .i64, .int .i64, .int .i64, .sl 46] [.rs 32 xs_1, .rs 71 xs_2, .i .i64 n_1, .i .i64 n_2, .i .i64 n_3, .rs 46 xs_3] 0), (4, .b b_1), (5, .i .i64 n_4)], m := [], nx := 0, nt := 111 }
noncomputable def lp24a : Code := loopAt c24 [true, true, false, true, false]
noncomputable def ex24a (os : List (List AV)) (hs : List (List AV)) (sp : Int) (tl : Int) (th : Int) (ms : List (List AV)) (xs_1 : List (List AV)) (xs_2 : List (List AV)) (n_1 : Int) (n_2 : Int) (n_3 : Int) (xs_3 : List (List AV)) (b_1 : Bool) (n_4 : Int) : Bool := !(cU (ms.getD n_4.toNat []) == cU (xs_3.getD n_4.toNat []) && cV (ms.getD n_4.toNat []) == cV (xs_3.getD n_4.toNat []) && (c2 (ms.getD n_4.toNat []) == c2 (xs_3.getD n_4.toNat []) && c3 (ms.getD n_4.toNat []) == c3 (xs_3.getD n_4.toNat [])))
noncomputable def df24a (os : List (List AV)) (hs : List (List AV)) (sp : Int) (tl : Int) (th : Int) (ms : List (List AV)) (xs_1 : List (List AV)) (xs_2 : List (List AV)) (n_1 : Int) (n_2 : Int) (n_3 : Int) (xs_3 : List (List AV)) (b_1 : Bool) (n_4 : Int) : Bool := (inb n_4 ms.length) && (inb n_4 xs_3.length)
noncomputable def q24a_0 (os : List (List AV)) (hs : List (List AV)) (sp : Int) (tl : Int) (th : Int) (ms : List (List AV)) (xs_1 : List (List AV)) (xs_2 : List (List AV)) (n_1 : Int) (n_2 : Int) (n_3 : Int) (xs_3 : List (List AV)) (b_1 : Bool) (n_4 : Int) : Ex × St := (.ret, s24a os hs sp tl th ms xs_1 xs_2 n_1 n_2 n_3 xs_3 false n_4)
noncomputable def q24a (os : List (List AV)) (hs : List (List AV)) (sp : Int) (tl : Int) (th : Int) (ms : List (List AV)) (xs_1 : List (List AV)) (xs_2 : List (List AV)) (n_1 : Int) (n_2 : Int) (n_3 : Int) (xs_3 : List (List AV)) (b_1 : Bool) (n_4 : Int) : Ex × St := q24a_0 os hs sp tl th ms xs_1 xs_2 n_1 n_2 n_3 xs_3 b_1 n_4
noncomputable def e24a (os : List (List AV)) (hs : List (List AV)) (sp : Int) (tl : Int) (th : Int) (ms : List (List AV)) (xs_1 : List (List AV)) (xs_2 : List (List AV)) (n_1 : Int) (n_2 : Int) (n_3 : Int) (xs_3 : List (List AV)) (b_1 : Bool) (k : Nat) : Bool := ex24a os hs sp tl th ms xs_1 xs_2 n_1 n_2 n_3 xs_3 b_1 ((k : Nat) : Int)
noncomputable def d24a (os : List (List AV)) (hs : List (List AV)) (sp : Int) (tl : Int) (th : Int) (ms : List (List AV)) (xs_1 : List (List AV)) (xs_2 : List (List AV)) (n_1 : Int) (n_2 : Int) (n_3 : Int) (xs_3 : List (List AV)) (b_1 : Bool) (k : Nat) : Bool := df24a os hs sp tl th ms xs_1 xs_2 n_1 n_2 n_3 xs_3 b_1 ((k : Nat) : Int)
noncomputable def st24a (os : List (List AV)) (hs : List (List AV)) (sp : Int) (tl : Int) (th : Int) (ms : List (List AV)) (xs_1 : List (List AV)) (xs_2 : List (List AV)) (n_1 : Int) (n_2 : Int) (n_3 : Int) (xs_3 : List (List AV)) (b_1 : Bool) (k : Nat) : St := s24a os hs sp tl th ms xs_1 xs_2 n_1 n_2 n_3 xs_3 b_1 ((k : Nat) : Int)
noncomputable def ou24a (os : List (List AV)) (hs : List (List AV)) (sp : Int) (tl : Int) (th : Int) (ms : List (List AV)) (xs_1 : List (List AV)) (xs_2 : List (List AV)) (n_1 : Int) (n_2 : Int) (n_3 : Int) (xs_3 : List (List AV)) (b_1 : Bool) (k : Nat) : Ex × St := q24a os hs sp tl th ms xs_1 xs_2 n_1 n_2 n_3 xs_3 b_1 ((k : Nat) : Int)
noncomputable def N24a (os : List (List AV)) (hs : List (List AV)) (sp : Int) (tl : Int) (th : Int) (ms : List (List AV)) (xs_1 : List (List AV)) (xs_2 : List (List AV)) (n_1 : Int) (n_2 : Int) (n_3 : Int) (xs_3 : List (List AV)) (b_1 : Bool) : Nat := ((↑ms.length : Int) : Int).toNat
noncomputable def g24a (os : List (List AV)) (hs : List (List AV)) (sp : Int) (tl : Int) (th : Int) (ms : List (List AV)) (xs_1 : List (List AV)) (xs_2 : List (List AV)) (n_1 : Int) (n_2 : Int) (n_3 : Int) (xs_3 : List (List AV)) (b_1 : Bool) : Bool := decide (((↑ms.length : Int) : Int) ≤ 9223372036854775807) && allN (d24a os hs sp tl th ms xs_1 xs_2 n_1 n_2 n_3 xs_3 b_1) (N24a os hs sp tl th ms xs_1 xs_2 n_1 n_2 n_3 xs_3 b_1)
noncomputable def l24a (st : St) : Option (List (Bool × Ex × St)) := match normV Try.prog [2, 3, 4, 5] 0 st with
  | some ([.rp [.sl 32, .sl 71, .int .i64, .int .i64, .int .i64, .sl 46] [.rs 32 os, .rs 71 hs, .i .i64 sp, .i .i64 tl, .i .i64 th, .rs 46 ms] 0, .rp [.sl 32, .sl 71, .int .i64, .int .i64, .int .i64, .sl 46] [.rs 32 xs_1, .rs 71 xs_2, .i .i64 n_1, .i .i64 n_2, .i .i64 n_3, .rs 46 xs_3] 0, .b b_1, .i .i64 (.ofNat 0)], [], 111) => some [(g24a os hs sp tl th ms xs_1 xs_2 n_1 n_2 n_3 xs_3 b_1 && anyN (e24a os hs sp tl th ms xs_1 xs_2 n_1 n_2 n_3 xs_3 b_1) (N24a os hs sp tl th ms xs_1 xs_2 n_1 n_2 n_3 xs_3 b_1), .ret, (q24a_0 os hs sp tl th ms xs_1 xs_2 n_1 n_2 n_3 xs_3 b_1 (((firstN (e24a os hs sp tl th ms xs_1 xs_2 n_1 n_2 n_3 xs_3 b_1) (N24a os hs sp tl th ms xs_1 xs_2 n_1 n_2 n_3 xs_3 b_1)) : Nat) : Int)).2), (g24a os hs sp tl th ms xs_1 xs_2 n_1 n_2 n_3 xs_3 b_1, .ext 0, st24a os hs sp tl th ms xs_1 xs_2 n_1 n_2 n_3 xs_3 b_1 (N24a os hs sp tl th ms xs_1 xs_2 n_1 n_2 n_3 xs_3 b_1))]
  | _ => none
noncomputable def s24b (os : List (List AV)) (hs : List (List AV)) (sp : Int) (tl : Int) (th : Int) (ms : List (List AV)) (xs_1 : List (List AV)) (xs_2 : List (List AV)) (n_1 : Int) (n_2 : Int) (n_3 : Int) (xs_3 : List (List AV)) (b_1 : Bool) (n_4 : Int) : St :=
  { t := [(2, .rp [.sl 32, .sl 71, .int .i64, .int .i64, .int .i64, .sl 46] [.rs 32 os, .rs 71 hs, .i .i64 sp, .i .i64 tl, .i .i64 th, .rs 46 ms] 0), (3, .rp [.sl 32, .sl 71, .int .i64, .int .i64, .int .i64, .sl 46] [.rs 32 xs_1, .rs 71 xs_2, .i .i64 n_1, .i .i64 n_2, .i .i64 n_3, .rs 46 xs_3] 0), (4, .b b_1), (6, .i .i64 n_4)], m := [], nx := 0, nt := 111 }
noncomputable def lp24b : Code := loopAt c24 [true, true, true, false, true, false]
noncomputable def ex24b (os : List (List AV)) (hs : List (List AV)) (sp : Int) (tl : Int) (th : Int) (ms : List (List AV)) (xs_1 : List (List AV)) (xs_2 : List (List AV)) (n_1 : Int) (n_2 : Int) (n_3 : Int) (xs_3 : List (List AV)) (b_1 : Bool) (n_4 : Int) : Bool := !(cU (os.getD n_4.toNat []) == cU (xs_1.getD n_4.toNat []) && cV (os.getD n_4.toNat []) == cV (xs_1.getD n_4.toNat []))
noncomputable def df24b (os : List (List AV)) (hs : List (List AV)) (sp : Int) (tl : Int) (th : Int) (ms : List (List AV)) (xs_1 : List (List AV)) (xs_2 : List (List AV)) (n_1 : Int) (n_2 : Int) (n_3 : Int) (xs_3 : List (List AV)) (b_1 : Bool) (n_4 : Int) : Bool := (inb n_4 os.length) && (inb n_4 xs_1.length)
noncomputable def q24b_0 (os : List (List AV)) (hs : List (List AV)) (sp : Int) (tl : Int) (th : Int) (ms : List (List AV)) (xs_1 : List (List AV)) (xs_2 : List (List AV)) (n_1 : Int) (n_2 : Int) (n_3 : Int) (xs_3 : List (List AV)) (b_1 : Bool) (n_4 : Int) : Ex × St := (.ret, s24b os hs sp tl th ms xs_1 xs_2 n_1 n_2 n_3 xs_3 false n_4)
noncomputable def q24b (os : List (List AV)) (hs : List (List AV)) (sp : Int) (tl : Int) (th : Int) (ms : List (List AV)) (xs_1 : List (List AV)) (xs_2 : List (List AV)) (n_1 : Int) (n_2 : Int) (n_3 : Int) (xs_3 : List (List AV)) (b_1 : Bool) (n_4 : Int) : Ex × St := q24b_0 os hs sp tl th ms xs_1 xs_2 n_1 n_2 n_3 xs_3 b_1 n_4
noncomputable def e24b (os : List (List AV)) (hs : List (List AV)) (sp : Int) (tl : Int) (th : Int) (ms : List (List AV)) (xs_1 : List (List AV)) (xs_2 : List (List AV)) (n_1 : Int) (n_2 : Int) (n_3 : Int) (xs_3 : List (List AV)) (b_1 : Bool) (k : Nat) : Bool := ex24b os hs sp tl th ms xs_1 xs_2 n_1 n_2 n_3 xs_3 b_1 ((k : Nat) : Int)
noncomputable def d24b (os : List (List AV)) (hs : List (List AV)) (sp : Int) (tl : Int) (th : Int) (ms : List (List AV)) (xs_1 : List (List AV)) (xs_2 : List (List AV)) (n_1 : Int) (n_2 : Int) (n_3 : Int) (xs_3 : List (List AV)) (b_1 : Bool) (k : Nat) : Bool := df24b os hs sp tl th ms xs_1 xs_2 n_1 n_2 n_3 xs_3 b_1 ((k : Nat) : Int)
noncomputable def st24b (os : List (List AV)) (hs : List (List AV)) (sp : Int) (tl : Int) (th : Int) (ms : List (List AV)) (xs_1 : List (List AV)) (xs_2 : List (List AV)) (n_1 : Int) (n_2 : Int) (n_3 : Int) (xs_3 : List (List AV)) (b_1 : Bool) (k : Nat) : St := s24b os hs sp tl th ms xs_1 xs_2 n_1 n_2 n_3 xs_3 b_1 ((k : Nat) : Int)
noncomputable def ou24b (os : List (List AV)) (hs : List (List AV)) (sp : Int) (tl : Int) (th : Int) (ms : List (List AV)) (xs_1 : List (List AV)) (xs_2 : List (List AV)) (n_1 : Int) (n_2 : Int) (n_3 : Int) (xs_3 : List (List AV)) (b_1 : Bool) (k : Nat) : Ex × St := q24b os hs sp tl th ms xs_1 xs_2 n_1 n_2 n_3 xs_3 b_1 ((k : Nat) : Int)
noncomputable def N24b (os : List (List AV)) (hs : List (List AV)) (sp : Int) (tl : Int) (th : Int) (ms : List (List AV)) (xs_1 : List (List AV)) (xs_2 : List (List AV)) (n_1 : Int) (n_2 : Int) (n_3 : Int) (xs_3 : List (List AV)) (b_1 : Bool) : Nat := ((↑os.length : Int) : Int).toNat
noncomputable def g24b (os : List (List AV)) (hs : List (List AV)) (sp : Int) (tl : Int) (th : Int) (ms : List (List AV)) (xs_1 : List (List AV)) (xs_2 : List (List AV)) (n_1 : Int) (n_2 : Int) (n_3 : Int) (xs_3 : List (List AV)) (b_1 : Bool) : Bool := decide (((↑os.length : Int) : Int) ≤ 9223372036854775807) && allN (d24b os hs sp tl th ms xs_1 xs_2 n_1 n_2 n_3 xs_3 b_1) (N24b os hs sp tl th ms xs_1 xs_2 n_1 n_2 n_3 xs_3 b_1)
noncomputable def l24b (st : St) : Option (List (Bool × Ex × St)) := match normV Try.prog [2, 3, 4, 6] 0 st with
  | some ([.rp [.sl 32, .sl 71, .int .i64, .int .i64, .int .i64, .sl 46] [.rs 32 os, .rs 71 hs, .i .i64 sp, .i .i64 tl, .i .i64 th, .rs 46 ms] 0, .rp [.sl 32, .sl 71, .int .i64, .int .i64, .int .i64, .sl 46] [.rs 32 xs_1, .rs 71 xs_2, .i .i64 n_1, .i .i64 n_2, .i .i64 n_3, .rs 46 xs_3] 0, .b b_1, .i .i64 (.ofNat 0)], [], 111) => some [(g24b os hs sp tl th ms xs_1 xs_2 n_1 n_2 n_3 xs_3 b_1 && anyN (e24b os hs sp tl th ms xs_1 xs_2 n_1 n_2 n_3 xs_3 b_1) (N24b os hs sp tl th ms xs_1 xs_2 n_1 n_2 n_3 xs_3 b_1), .ret, (q24b_0 os hs sp tl th ms xs_1 xs_2 n_1 n_2 n_3 xs_3 b_1 (((firstN (e24b os hs sp tl th ms xs_1 xs_2 n_1 n_2 n_3 xs_3 b_1) (N24b os hs sp tl th ms xs_1 xs_2 n_1 n_2 n_3 xs_3 b_1)) : Nat) : Int)).2), (g24b os hs sp tl th ms xs_1 xs_2 n_1 n_2 n_3 xs_3 b_1, .ext 2, st24b os hs sp tl th ms xs_1 xs_2 n_1 n_2 n_3 xs_3 b_1 (N24b os hs sp tl th ms xs_1 xs_2 n_1 n_2 n_3 xs_3 b_1))]
  | _ => none
noncomputable def s24c (os : List (List AV)) (hs : List (List AV)) (sp : Int) (tl : Int) (th : Int) (ms : List (List AV)) (xs_1 : List (List AV)) (xs_2 : List (List AV)) (n_1 : Int) (n_2 : Int) (n_3 : Int) (xs_3 : List (List AV)) (b_1 : Bool) (n_4 : Int) : St :=
  { t := [(2, .rp [.sl 32, .sl 71, .int .i64, .int .i64, .int .i64, .sl 46] [.rs 32 os, .rs 71 hs, .i .i64 sp, .i .i64 tl, .i .i64 th, .rs 46 ms] 0), (3, .rp [.sl 32, .sl 71, .int .i64, .int .i64, .int .i64, .sl 46] [.rs 32 xs_1, .rs 71 xs_2, .i .i64 n_1, .i .i64 n_2, .i .i64 n_3, .rs 46 xs_3] 0), (4, .b b_1), (7, .i .i64 n_4)], m := [], nx := 0, nt := 111 }
noncomputable def lp24c : Code := loopAt c24 [true, true, true, true, false, true, false]
noncomputable def ex24c (os : List (List AV)) (hs : List (List AV)) (sp : Int) (tl : Int) (th : Int) (ms : List (List AV)) (xs_1 : List (List AV)) (xs_2 : List (List AV)) (n_1 : Int) (n_2 : Int) (n_3 : Int) (xs_3 : List (List AV)) (b_1 : Bool) (n_4 : Int) : Bool := !(cU (hs.getD n_4.toNat []) == cU (xs_2.getD n_4.toNat []) && cV (hs.getD n_4.toNat []) == cV (xs_2.getD n_4.toNat []) && (c2 (hs.getD n_4.toNat []) == c2 (xs_2.getD n_4.toNat []) && c3 (hs.getD n_4.toNat []) == c3 (xs_2.getD n_4.toNat [])))
noncomputable def df24c (os : List (List AV)) (hs : List (List AV)) (sp : Int) (tl : Int) (th : Int) (ms : List (List AV)) (xs_1 : List (List AV)) (xs_2 : List (List AV)) (n_1 : Int) (n_2 : Int) (n_3 : Int) (xs_3 : List (List AV)) (b_1 : Bool) (n_4 : Int) : Bool := (inb n_4 hs.length) && (inb n_4 xs_2.length)
noncomputable def q24c_0 (os : List (List AV)) (hs : List (List AV)) (sp : Int) (tl : Int) (th : Int) (ms : List (List AV)) (xs_1 : List (List AV)) (xs_2 : List (List AV)) (n_1 : Int) (n_2 : Int) (n_3 : Int) (xs_3 : List (List AV)) (b_1 : Bool) (n_4 : Int) : Ex × St := (.ret, s24c os hs sp tl th ms xs_1 xs_2 n_1 n_2 n_3 xs_3 false n_4)
noncomputable def q24c (os : List (List AV)) (hs : List (List AV)) (sp : Int) (tl : Int) (th : Int) (ms : List (List AV)) (xs_1 : List (List AV)) (xs_2 : List (List AV)) (n_1 : Int) (n_2 : Int) (n_3 : Int) (xs_3 : List (List AV)) (b_1 : Bool) (n_4 : Int) : Ex × St := q24c_0 os hs sp tl th ms xs_1 xs_2 n_1 n_2 n_3 xs_3 b_1 n_4
noncomputable def e24c (os : List (List AV)) (hs : List (List AV)) (sp : Int) (tl : Int) (th : Int) (ms : List (List AV)) (xs_1 : List (List AV)) (xs_2 : List (List AV)) (n_1 : Int) (n_2 : Int) (n_3 : Int) (xs_3 : List (List AV)) (b_1 : Bool) (k : Nat) : Bool := ex24c os hs sp tl th ms xs_1 xs_2 n_1 n_2 n_3 xs_3 b_1 ((k : Nat) : Int)
noncomputable def d24c (os : List (List AV)) (hs : List (List AV)) (sp : Int) (tl : Int) (th : Int) (ms : List (List AV)) (xs_1 : List (List AV)) (xs_2 : List (List AV)) (n_1 : Int) (n_2 : Int) (n_3 : Int) (xs_3 : List (List AV)) (b_1 : Bool) (k : Nat) : Bool := df24c os hs sp tl th ms xs_1 xs_2 n_1 n_2 n_3 xs_3 b_1 ((k : Nat) : Int)
noncomputable def st24c (os : List (List AV)) (hs : List (List AV)) (sp : Int) (tl : Int) (th : Int) (ms : List (List AV)) (xs_1 : List (List AV)) (xs_2 : List (List AV)) (n_1 : Int) (n_2 : Int) (n_3 : Int) (xs_3 : List (List AV)) (b_1 : Bool) (k : Nat) : St := s24c os hs sp tl th ms xs_1 xs_2 n_1 n_2 n_3 xs_3 b_1 ((k : Nat) : Int)
noncomputable def ou24c (os : List (List AV)) (hs : List (List AV)) (sp : Int) (tl : Int) (th : Int) (ms : List (List AV)) (xs_1 : List (List AV)) (xs_2 : List (List AV)) (n_1 : Int) (n_2 : Int) (n_3 : Int) (xs_3 : List (List AV)) (b_1 : Bool) (k : Nat) : Ex × St := q24c os hs sp tl th ms xs_1 xs_2 n_1 n_2 n_3 xs_3 b_1 ((k : Nat) : Int)
noncomputable def N24c (os : List (List AV)) (hs : List (List AV)) (sp : Int) (tl : Int) (th : Int) (ms : List (List AV)) (xs_1 : List (List AV)) (xs_2 : List (List AV)) (n_1 : Int) (n_2 : Int) (n_3 : Int) (xs_3 : List (List AV)) (b_1 : Bool) : Nat := ((↑hs.length : Int) : Int).toNat
noncomputable def g24c (os : List (List AV)) (hs : List (List AV)) (sp : Int) (tl : Int) (th : Int) (ms : List (List AV)) (xs_1 : List (List AV)) (xs_2 : List (List AV)) (n_1 : Int) (n_2 : Int) (n_3 : Int) (xs_3 : List (List AV)) (b_1 : Bool) : Bool := decide (((↑hs.length : Int) : Int) ≤ 9223372036854775807) && allN (d24c os hs sp tl th ms xs_1 xs_2 n_1 n_2 n_3 xs_3 b_1) (N24c os hs sp tl th ms xs_1 xs_2 n_1 n_2 n_3 xs_3 b_1)
noncomputable def l24c (st : St) : Option (List (Bool × Ex × St)) := match normV Try.prog [2, 3, 4, 7] 0 st with
  | some ([.rp [.sl 32, .sl 71, .int .i64, .int .i64, .int .i64, .sl 46] [.rs 32 os, .rs 71 hs, .i .i64 sp, .i .i64 tl, .i .i64 th, .rs 46 ms] 0, .rp [.sl 32, .sl 71, .int .i64, .int .i64, .int .i64, .sl 46] [.rs 32 xs_1, .rs 71 xs_2, .i .i64 n_1, .i .i64 n_2, .i .i64 n_3, .rs 46 xs_3] 0, .b b_1, .i .i64 (.ofNat 0)], [], 111) => some [(g24c os hs sp tl th ms xs_1 xs_2 n_1 n_2 n_3 xs_3 b_1 && anyN (e24c os hs sp tl th ms xs_1 xs_2 n_1 n_2 n_3 xs_3 b_1) (N24c os hs sp tl th ms xs_1 xs_2 n_1 n_2 n_3 xs_3 b_1), .ret, (q24c_0 os hs sp tl th ms xs_1 xs_2 n_1 n_2 n_3 xs_3 b_1 (((firstN (e24c os hs sp tl th ms xs_1 xs_2 n_1 n_2 n_3 xs_3 b_1) (N24c os hs sp tl th ms xs_1 xs_2 n_1 n_2 n_3 xs_3 b_1)) : Nat) : Int)).2), (g24c os hs sp tl th ms xs_1 xs_2 n_1 n_2 n_3 xs_3 b_1, .ext 4, st24c os hs sp tl th ms xs_1 xs_2 n_1 n_2 n_3 xs_3 b_1 (N24c os hs sp tl th ms xs_1 xs_2 n_1 n_2 n_3 xs_3 b_1))]
  | _ => none
noncomputable def L24 : LSpec := fun p st => match p with
  | [false, true, false, true, true] => l24a st
  | [false, true, false, true, true, true] => l24b st
  | [false, true, false, true, true, true, true] => l24c st
  | _ => none
noncomputable def tr24a (os : List (List AV)) (hs : List (List AV)) (sp : Int) (tl : Int) (th : Int) (ms : List (List AV)) (xs_1 : List (List AV)) (xs_2 : List (List AV)) (n_1 : Int) (n_2 : Int) (n_3 : Int) (xs_3 : List (List AV)) (b_1 : Bool) (n_4 : Int) : Option (Ex × St) := cond (inb n_4 ms.length) (cond (inb n_4 xs_3.length) (cond (!(cU (ms.getD n_4.toNat []) == cU (xs_3.getD n_4.toNat []) && cV (ms.getD n_4.toNat []) == cV (xs_3.getD n_4.toNat []) && (c2 (ms.getD n_4.toNat []) == c2 (xs_3.getD n_4.toNat []) && c3 (ms.getD n_4.toNat []) == c3 (xs_3.getD n_4.toNat [])))) (some (.ret, s24a os hs sp tl th ms xs_1 xs_2 n_1 n_2 n_3 xs_3 false n_4)) (some (.nrm, s24a os hs sp tl th ms xs_1 xs_2 n_1 n_2 n_3 xs_3 b_1 (IntKind.i64.wrap (n_4 + 1))))) (none)) (none)
theorem round24a (os : List (List AV)) (hs : List (List AV)) (sp : Int) (tl : Int) (th : Int) (ms : List (List AV)) (xs_1 : List (List AV)) (xs_2 : List (List AV)) (n_1 : Int) (n_2 : Int) (n_3 : Int) (xs_3 : List (List AV)) (b_1 : Bool) (n_4 : Int) : round Try.prog Sn (ro 24) L24 lp24a [false, true, false, true, true] [2, 3, 4, 5] 0 (s24a os hs sp tl th ms xs_1 xs_2 n_1 n_2 n_3 xs_3 b_1 n_4) =
    cond (decide (n_4 < (↑ms.length : Int))) (tr24a os hs sp tl th ms xs_1 xs_2 n_1 n_2 n_3 xs_3 b_1 n_4) (some (.ext 0, s24a os hs sp tl th ms xs_1 xs_2 n_1 n_2 n_3 xs_3 b_1 n_4)) := by kernel_rfl
theorem step24a (os : List (List AV)) (hs : List (List AV)) (sp : Int) (tl : Int) (th : Int) (ms : List (List AV)) (xs_1 : List (List AV)) (xs_2 : List (List AV)) (n_1 : Int) (n_2 : Int) (n_3 : Int) (xs_3 : List (List AV)) (b_1 : Bool) (n_4 : Int) (hd : df24a os hs sp tl th ms xs_1 xs_2 n_1 n_2 n_3 xs_3 b_1 n_4 = true) : tr24a os hs sp tl th ms xs_1 xs_2 n_1 n_2 n_3 xs_3 b_1 n_4 = cond (ex24a os hs sp tl th ms xs_1 xs_2 n_1 n_2 n_3 xs_3 b_1 n_4) (some (q24a os hs sp tl th ms xs_1 xs_2 n_1 n_2 n_3 xs_3 b_1 n_4)) (some (.nrm, s24a os hs sp tl th ms xs_1 xs_2 n_1 n_2 n_3 xs_3 b_1 (IntKind.i64.wrap (n_4 + 1)))) := by
  unfold df24a at hd
  unfold ex24a q24a q24a_0 tr24a
  generalize (inb n_4 ms.length) = t0 at *
  generalize (inb n_4 xs_3.length) = t1 at *
  generalize (!(cU (ms.getD n_4.toNat []) == cU (xs_3.getD n_4.toNat []) && cV (ms.getD n_4.toNat []) == cV (xs_3.getD n_4.toNat []) && (c2 (ms.getD n_4.toNat []) == c2 (xs_3.getD n_4.toNat []) && c3 (ms.getD n_4.toNat []) == c3 (xs_3.getD n_4.toNat [])))) = t2 at *
  cases t0 <;> cases t1 <;> cases t2 <;> first | rfl | (cases hd)
theorem lok24a {st : St} {outs : List (Bool × Ex × St)} {e : Ex} {s : St} {lo : Nat} (hlo : lo ≤ st.nx) (hl : l24a st = some outs) (hch : Chosen outs e s) (hz : lo = 0) :
    ∃ keep nb, lo ≤ nb ∧ LB Try.prog Sn (ro 24) L24 lp24a [false, true, false, true, true] keep nb st e s := by
  unfold l24a at hl
  split at hl
  · rename_i os hs sp tl th ms xs_1 xs_2 n_1 n_2 n_3 xs_3 b_1 hno
    cases hl
    have hno := normV_norm hno
    refine LB_forG (n := (N24a os hs sp tl th ms xs_1 xs_2 n_1 n_2 n_3 xs_3 b_1)) (g := g24a os hs sp tl th ms xs_1 xs_2 n_1 n_2 n_3 xs_3 b_1) (stI := fun k => st24a os hs sp tl th ms xs_1 xs_2 n_1 n_2 n_3 xs_3 b_1 k) (ex := e24a os hs sp tl th ms xs_1 xs_2 n_1 n_2 n_3 xs_3 b_1) (out := (fun k => ou24a os hs sp tl th ms xs_1 xs_2 n_1 n_2 n_3 xs_3 b_1 k)) (fin := (.ext 0, st24a os hs sp tl th ms xs_1 xs_2 n_1 n_2 n_3 xs_3 b_1 (N24a os hs sp tl th ms xs_1 xs_2 n_1 n_2 n_3 xs_3 b_1))) hno (Nat.le_trans (Nat.le_of_eq hz) (Nat.zero_le _)) hch (fun k => by simp [ou24a, q24a, q24a_0]) (by simp) (fun hg => ?_)
    obtain ⟨hb, hall⟩ := Bool.and_eq_true_iff.1 hg
    have hb := of_decide_eq_true hb
    refine ⟨fun k hk => ?_, ?_⟩
    · have h1 := lt_toNat hk
      have hd := allN_at hall k hk
      have hw := wrap_succ h1 hb
      show round _ _ _ _ _ _ _ _ (s24a os hs sp tl th ms xs_1 xs_2 n_1 n_2 n_3 xs_3 b_1 ((k : Nat) : Int)) = _
      rw [round24a, show decide _ = true from decide_eq_true h1, cond_true, step24a _ _ _ _ _ _ _ _ _ _ _ _ _ _ hd, hw]
      rfl
    · show round _ _ _ _ _ _ _ _ (s24a os hs sp tl th ms xs_1 xs_2 n_1 n_2 n_3 xs_3 b_1 (((N24a os hs sp tl th ms xs_1 xs_2 n_1 n_2 n_3 xs_3 b_1) : Nat) : Int)) = _
      rw [round24a, show decide ((((N24a os hs sp tl th ms xs_1 xs_2 n_1 n_2 n_3 xs_3 b_1) : Nat) : Int) < ((↑ms.length : Int) : Int)) = false from not_lt_toNat]
      rfl
  · cases hl
noncomputable def tr24b (os : List (List AV)) (hs : List (List AV)) (sp : Int) (tl : Int) (th : Int) (ms : List (List AV)) (xs_1 : List (List AV)) (xs_2 : List (List AV)) (n_1 : Int) (n_2 : Int) (n_3 : Int) (xs_3 : List (List AV)) (b_1 : Bool) (n_4 : Int) : Option (Ex × St) := cond (inb n_4 os.length) (cond (inb n_4 xs_1.length) (cond (!(cU (os.getD n_4.toNat []) == cU (xs_1.getD n_4.toNat []) && cV (os.getD n_4.toNat []) == cV (xs_1.getD n_4.toNat []))) (some (.ret, s24b os hs sp tl th ms xs_1 xs_2 n_1 n_2 n_3 xs_3 false n_4)) (some (.nrm, s24b os hs sp tl th ms xs_1 xs_2 n_1 n_2 n_3 xs_3 b_1 (IntKind.i64.wrap (n_4 + 1))))) (none)) (none)
theorem round24b (os : List (List AV)) (hs : List (List AV)) (sp : Int) (tl : Int) (th : Int) (ms : List (List AV)) (xs_1 : List (List AV)) (xs_2 : List (List AV)) (n_1 : Int) (n_2 : Int) (n_3 : Int) (xs_3 : List (List AV)) (b_1 : Bool) (n_4 : Int) : round Try.prog Sn (ro 24) L24 lp24b [false, true, false, true, true, true] [2, 3, 4, 6] 0 (s24b os hs sp tl th ms xs_1 xs_2 n_1 n_2 n_3 xs_3 b_1 n_4) =
    cond (decide (n_4 < (↑os.length : Int))) (tr24b os hs sp tl th ms xs_1 xs_2 n_1 n_2 n_3 xs_3 b_1 n_4) (some (.ext 2, s24b os hs sp tl th ms xs_1 xs_2 n_1 n_2 n_3 xs_3 b_1 n_4)) := by kernel_rfl
theorem step24b (os : List (List AV)) (hs : List (List AV)) (sp : Int) (tl : Int) (th : Int) (ms : List (List AV)) (xs_1 : List (List AV)) (xs_2 : List (List AV)) (n_1 : Int) (n_2 : Int) (n_3 : Int) (xs_3 : List (List AV)) (b_1 : Bool) (n_4 : Int) (hd : df24b os hs sp tl th ms xs_1 xs_2 n_1 n_2 n_3 xs_3 b_1 n_4 = true) : tr24b os hs sp tl th ms xs_1 xs_2 n_1 n_2 n_3 xs_3 b_1 n_4 = cond (ex24b os hs sp tl th ms xs_1 xs_2 n_1 n_2 n_3 xs_3 b_1 n_4) (some (q24b os hs sp tl th ms xs_1 xs_2 n_1 n_2 n_3 xs_3 b_1 n_4)) (some (.nrm, s24b os hs sp tl th ms xs_1 xs_2 n_1 n_2 n_3 xs_3 b_1 (IntKind.i64.wrap (n_4 + 1)))) := by
  unfold df24b at hd
  unfold ex24b q24b q24b_0 tr24b
  generalize (inb n_4 os.length) = t0 at *
  generalize (inb n_4 xs_1.length) = t1 at *
  generalize (!(cU (os.getD n_4.toNat []) == cU (xs_1.getD n_4.toNat []) && cV (os.getD n_4.toNat []) == cV (xs_1.getD n_4.toNat []))) = t2 at *
  cases t0 <;> cases t1 <;> cases t2 <;> first | rfl | (cases hd)
theorem lok24b {st : St} {outs : List (Bool × Ex × St)} {e : Ex} {s : St} {lo : Nat} (hlo : lo ≤ st.nx) (hl : l24b st = some outs) (hch : Chosen outs e s) (hz : lo = 0) :
    ∃ keep nb, lo ≤ nb ∧ LB Try.prog Sn (ro 24) L24 lp24b [false, true, false, true, true, true] keep nb st e s := by
  unfold l24b at hl
  split at hl
  · rename_i os hs sp tl th ms xs_1 xs_2 n_1 n_2 n_3 xs_3 b_1 hno
    cases hl
    have hno := normV_norm hno
    refine LB_forG (n := (N24b os hs sp tl th ms xs_1 xs_2 n_1 n_2 n_3 xs_3 b_1)) (g := g24b os hs sp tl th ms xs_1 xs_2 n_1 n_2 n_3 xs_3 b_1) (stI := fun k => st24b os hs sp tl th ms xs_1 xs_2 n_1 n_2 n_3 xs_3 b_1 k) (ex := e24b os hs sp tl th ms xs_1 xs_2 n_1 n_2 n_3 xs_3 b_1) (out := (fun k => ou24b os hs sp tl th ms xs_1 xs_2 n_1 n_2 n_3 xs_3 b_1 k)) (fin := (.ext 2, st24b os hs sp tl th ms xs_1 xs_2 n_1 n_2 n_3 xs_3 b_1 (N24b os hs sp tl th ms xs_1 xs_2 n_1 n_2 n_3 xs_3 b_1))) hno (Nat.le_trans (Nat.le_of_eq hz) (Nat.zero_le _)) hch (fun k => by simp [ou24b, q24b, q24b_0]) (by simp) (fun hg => ?_)
    obtain ⟨hb, hall⟩ := Bool.and_eq_true_iff.1 hg
    have hb := of_decide_eq_true hb
    refine ⟨fun k hk => ?_, ?_⟩
    · have h1 := lt_toNat hk
      have hd := allN_at hall k hk
      have hw := wrap_succ h1 hb
      show round _ _ _ _ _ _ _ _ (s24b os hs sp tl th ms xs_1 xs_2 n_1 n_2 n_3 xs_3 b_1 ((k : Nat) : Int)) = _
      rw [round24b, show decide _ = true from decide_eq_true h1, cond_true, step24b _ _ _ _ _ _ _ _ _ _ _ _ _ _ hd, hw]
      rfl
    · show round _ _ _ _ _ _ _ _ (s24b os hs sp tl th ms xs_1 xs_2 n_1 n_2 n_3 xs_3 b_1 (((N24b os hs sp tl th ms xs_1 xs_2 n_1 n_2 n_3 xs_3 b_1) : Nat) : Int)) = _
      rw [round24b, show decide ((((N24b os hs sp tl th ms xs_1 xs_2 n_1 n_2 n_3 xs_3 b_1) : Nat) : Int) < ((↑os.length : Int) : Int)) = false from not_lt_toNat]
      rfl
  · cases hl
noncomputable def tr24c (os : List (List AV)) (hs : List (List AV)) (sp : Int) (tl : Int) (th : Int) (ms : List (List AV)) (xs_1 : List (List AV)) (xs_2 : List (List AV)) (n_1 : Int) (n_2 : Int) (n_3 : Int) (xs_3 : List (List AV)) (b_1 : Bool) (n_4 : Int) : Option (Ex × St) := cond (inb n_4 hs.length) (cond (inb n_4 xs_2.length) (cond (!(cU (hs.getD n_4.toNat []) == cU (xs_2.getD n_4.toNat []) && cV (hs.getD n_4.toNat []) == cV (xs_2.getD n_4.toNat []) && (c2 (hs.getD n_4.toNat []) == c2 (xs_2.getD n_4.toNat []) && c3 (hs.getD n_4.toNat []) == c3 (xs_2.getD n_4.toNat [])))) (some (.ret, s24c os hs sp tl th ms xs_1 xs_2 n_1 n_2 n_3 xs_3 false n_4)) (some (.nrm, s24c os hs sp tl th ms xs_1 xs_2 n_1 n_2 n_3 xs_3 b_1 (IntKind.i64.wrap (n_4 + 1))))) (none)) (none)
theorem round24c (os : List (List AV)) (hs : List (List AV)) (sp : Int) (tl : Int) (th : Int) (ms : List (List AV)) (xs_1 : List (List AV)) (xs_2 : List (List AV)) (n_1 : Int) (n_2 : Int) (n_3 : Int) (xs_3 : List (List AV)) (b_1 : Bool) (n_4 : Int) : round Try.prog Sn (ro 24) L24 lp24c [false, true, false, true, true, true, true] [2, 3, 4, 7] 0 (s24c os hs sp tl th ms xs_1 xs_2 n_1 n_2 n_3 xs_3 b_1 n_4) =
    cond (decide (n_4 < (↑hs.length : Int))) (tr24c os hs sp tl th ms xs_1 xs_2 n_1 n_2 n_3 xs_3 b_1 n_4) (some (.ext 4, s24c os hs sp tl th ms xs_1 xs_2 n_1 n_2 n_3 xs_3 b_1 n_4)) := by kernel_rfl
theorem step24c (os : List (List AV)) (hs : List (List AV)) (sp : Int) (tl : Int) (th : Int) (ms : List (List AV)) (xs_1 : List (List AV)) (xs_2 : List (List AV)) (n_1 : Int) (n_2 : Int) (n_3 : Int) (xs_3 : List (List AV)) (b_1 : Bool) (n_4 : Int) (hd : df24c os hs sp tl th ms xs_1 xs_2 n_1 n_2 n_3 xs_3 b_1 n_4 = true) : tr24c os hs sp tl th ms xs_1 xs_2 n_1 n_2 n_3 xs_3 b_1 n_4 = cond (ex24c os hs sp tl th ms xs_1 xs_2 n_1 n_2 n_3 xs_3 b_1 n_4) (some (q24c os hs sp tl th ms xs_1 xs_2 n_1 n_2 n_3 xs_3 b_1 n_4)) (some (.nrm, s24c os hs sp tl th ms xs_1 xs_2 n_1 n_2 n_3 xs_3 b_1 (IntKind.i64.wrap (n_4 + 1)))) := by
  unfold df24c at hd
  unfold ex24c q24c q24c_0 tr24c
  generalize (inb n_4 hs.length) = t0 at *
  generalize (inb n_4 xs_2.length) = t1 at *
  generalize (!(cU (hs.getD n_4.toNat []) == cU (xs_2.getD n_4.toNat []) && cV (hs.getD n_4.toNat []) == cV (xs_2.getD n_4.toNat []) && (c2 (hs.getD n_4.toNat []) == c2 (xs_2.getD n_4.toNat []) && c3 (hs.getD n_4.toNat []) == c3 (xs_2.getD n_4.toNat [])))) = t2 at *
  cases t0 <;> cases t1 <;> cases t2 <;> first | rfl | (cases hd)
theorem lok24c {st : St} {outs : List (Bool × Ex × St)} {e : Ex} {s : St} {lo : Nat} (hlo : lo ≤ st.nx) (hl : l24c st = some outs) (hch : Chosen outs e s) (hz : lo = 0) :
    ∃ keep nb, lo ≤ nb ∧ LB Try.prog Sn (ro 24) L24 lp24c [false, true, false, true, true, true, true] keep nb st e s := by
  unfold l24c at hl
  split at hl
  · rename_i os hs sp tl th ms xs_1 xs_2 n_1 n_2 n_3 xs_3 b_1 hno
    cases hl
    have hno := normV_norm hno
    refine LB_forG (n := (N24c os hs sp tl th ms xs_1 xs_2 n_1 n_2 n_3 xs_3 b_1)) (g := g24c os hs sp tl th ms xs_1 xs_2 n_1 n_2 n_3 xs_3 b_1) (stI := fun k => st24c os hs sp tl th ms xs_1 xs_2 n_1 n_2 n_3 xs_3 b_1 k) (ex := e24c os hs sp tl th ms xs_1 xs_2 n_1 n_2 n_3 xs_3 b_1) (out := (fun k => ou24c os hs sp tl th ms xs_1 xs_2 n_1 n_2 n_3 xs_3 b_1 k)) (fin := (.ext 4, st24c os hs sp tl th ms xs_1 xs_2 n_1 n_2 n_3 xs_3 b_1 (N24c os hs sp tl th ms xs_1 xs_2 n_1 n_2 n_3 xs_3 b_1))) hno (Nat.le_trans (Nat.le_of_eq hz) (Nat.zero_le _)) hch (fun k => by simp [ou24c, q24c, q24c_0]) (by simp) (fun hg => ?_)
    obtain ⟨hb, hall⟩ := Bool.and_eq_true_iff.1 hg
    have hb := of_decide_eq_true hb
    refine ⟨fun k hk => ?_, ?_⟩
    · have h1 := lt_toNat hk
      have hd := allN_at hall k hk
      have hw := wrap_succ h1 hb
      show round _ _ _ _ _ _ _ _ (s24c os hs sp tl th ms xs_1 xs_2 n_1 n_2 n_3 xs_3 b_1 ((k : Nat) : Int)) = _
      rw [round24c, show decide _ = true from decide_eq_true h1, cond_true, step24c _ _ _ _ _ _ _ _ _ _ _ _ _ _ hd, hw]
      rfl
    · show round _ _ _ _ _ _ _ _ (s24c os hs sp tl th ms xs_1 xs_2 n_1 n_2 n_3 xs_3 b_1 (((N24c os hs sp tl th ms xs_1 xs_2 n_1 n_2 n_3 xs_3 b_1) : Nat) : Int)) = _
      rw [round24c, show decide ((((N24c os hs sp tl th ms xs_1 xs_2 n_1 n_2 n_3 xs_3 b_1) : Nat) : Int) < ((↑hs.length : Int) : Int)) = false from not_lt_toNat]
      rfl
  · cases hl
theorem L24_ok (q : Pl) (c : Code) (hq : locate c24 q.reverse = some (.loop c)) (st : St) (outs : List (Bool × Ex × St)) (e : Ex) (s : St) (hl : L24 q st = some outs) (hch : Chosen outs e s) :
    ∃ keep nb, LB Try.prog Sn (ro 24) L24 c q keep nb st e s := by
  unfold L24 at hl
  split at hl
  · have : locate c24 ([false, true, false, true, true] : Pl).reverse = some (.loop lp24a) := by kernel_rfl
    rw [this] at hq
    cases hq
    obtain ⟨keep, nb, _, h⟩ := lok24a (lo := 0) (Nat.zero_le _) hl hch rfl
    exact ⟨keep, nb, h⟩
  · have : locate c24 ([false, true, false, true, true, true] : Pl).reverse = some (.loop lp24b) := by kernel_rfl
    rw [this] at hq
    cases hq
    obtain ⟨keep, nb, _, h⟩ := lok24b (lo := 0) (Nat.zero_le _) hl hch rfl
    exact ⟨keep, nb, h⟩
  · have : locate c24 ([false, true, false, true, true, true, true] : Pl).reverse = some (.loop lp24c) := by kernel_rfl
    rw [this] at hq
    cases hq
    obtain ⟨keep, nb, _, h⟩ := lok24c (lo := 0) (Nat.zero_le _) hl hch rfl
    exact ⟨keep, nb, h⟩
  · cases hl
theorem eq24 (os hs ms os' hs' ms' : List (List AV)) (sp tl th sp' tl' th' : Int) : evF Try.prog Sn (ro 24) L24 Try.f24 [.agg [.rs 32 os, .rs 71 hs, .i .i64 sp, .i .i64 tl, .i .i64 th, .rs 46 ms], .agg [.rs 32 os', .rs 71 hs', .i .i64 sp', .i .i64 tl', .i .i64 th', .rs 46 ms']] =
    cond (sp != sp') (some (.b false)) (cond (!(tl == tl' && th == th')) (some (.b false)) (cond ((↑ms.length : Int) != (↑ms'.length : Int)) (some (.b false)) (cond ((↑os.length : Int) != (↑os'.length : Int)) (some (.b false)) (cond ((↑hs.length : Int) != (↑hs'.length : Int)) (some (.b false)) (cond (g24a os hs sp tl th ms os' hs' sp' tl' th' ms' false && anyN (e24a os hs sp tl th ms os' hs' sp' tl' th' ms' false) (N24a os hs sp tl th ms os' hs' sp' tl' th' ms' false)) (some (.b false)) (cond (g24a os hs sp tl th ms os' hs' sp' tl' th' ms' false) (cond (g24b os hs sp tl th ms os' hs' sp' tl' th' ms' false && anyN (e24b os hs sp tl th ms os' hs' sp' tl' th' ms' false) (N24b os hs sp tl th ms os' hs' sp' tl' th' ms' false)) (some (.b false)) (cond (g24b os hs sp tl th ms os' hs' sp' tl' th' ms' false) (cond (g24c os hs sp tl th ms os' hs' sp' tl' th' ms' false && anyN (e24c os hs sp tl th ms os' hs' sp' tl' th' ms' false) (N24c os hs sp tl th ms os' hs' sp' tl' th' ms' false)) (some (.b false)) (cond (g24c os hs sp tl th ms os' hs' sp' tl' th' ms' false) (some (.b true)) (none))) (none))) (none))))))) := by kernel_rfl
end Go.Proofs.Yteclfchlejocmaa
