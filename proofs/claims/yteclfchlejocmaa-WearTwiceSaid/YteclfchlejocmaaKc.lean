/-
  Two seasons take what one takes that takes both their spans, as far as nothing is gone below 0, and a season that takes nothing changes nothing, for every skin and any two seasons (statement WearTwice); this text is a part of that proof.
-/
import Derived.Test.YteclfchlejocmaaKb
set_option linter.unusedVariables false
set_option maxRecDepth 100000
set_option linter.unusedVariables false
namespace Go.Proofs.Yteclfchlejocmaa
open Go Go.Ev

/-! ### thatchlaw07.Great -/
noncomputable def c13 : Code := match Try.f13.body with | some c => c | _ => .skip
noncomputable def s13a (os : List (List AV)) (hs : List (List AV)) (sp : Int) (tl : Int) (th : Int) (ms : List (List AV)) (b_1 : Bool) (n_1 : Int) : St :=
  { t := [(1, .rp [.sl 32, .sl 71, .int .i64, .int .i64, .int .i64, .sl 46] [.rs 32 os, .rs 71 hs, .i .i64 sp, .i .i64 tl, .i .i64 th, .rs 46 ms] 0), (2, .b b_1), (3, .i .i64 n_1)], m := [], nx := 0, nt := 59 }
noncomputable def lp13a : Code := loopAt c13 [true, true, false, true, false]
def ex13a (os : List (List AV)) (hs : List (List AV)) (sp : Int) (tl : Int) (th : Int) (ms : List (List AV)) (b_1 : Bool) (n_1 : Int) : Bool := (longB (cU (hs.getD n_1.toNat []))) || ((longB (cV (hs.getD n_1.toNat []))) || ((longB (c2 (hs.getD n_1.toNat []))) || (longB (c3 (hs.getD n_1.toNat [])))))
def df13a (os : List (List AV)) (hs : List (List AV)) (sp : Int) (tl : Int) (th : Int) (ms : List (List AV)) (b_1 : Bool) (n_1 : Int) : Bool := inb n_1 hs.length
noncomputable def q13a_0 (os : List (List AV)) (hs : List (List AV)) (sp : Int) (tl : Int) (th : Int) (ms : List (List AV)) (b_1 : Bool) (n_1 : Int) : Ex × St := (.ret, s13a os hs sp tl th ms true n_1)
noncomputable def q13a (os : List (List AV)) (hs : List (List AV)) (sp : Int) (tl : Int) (th : Int) (ms : List (List AV)) (b_1 : Bool) (n_1 : Int) : Ex × St := q13a_0 os hs sp tl th ms b_1 n_1
def e13a (os : List (List AV)) (hs : List (List AV)) (sp : Int) (tl : Int) (th : Int) (ms : List (List AV)) (b_1 : Bool) (k : Nat) : Bool := ex13a os hs sp tl th ms b_1 ((k : Nat) : Int)
def d13a (os : List (List AV)) (hs : List (List AV)) (sp : Int) (tl : Int) (th : Int) (ms : List (List AV)) (b_1 : Bool) (k : Nat) : Bool := df13a os hs sp tl th ms b_1 ((k : Nat) : Int)
noncomputable def st13a (os : List (List AV)) (hs : List (List AV)) (sp : Int) (tl : Int) (th : Int) (ms : List (List AV)) (b_1 : Bool) (k : Nat) : St := s13a os hs sp tl th ms b_1 ((k : Nat) : Int)
noncomputable def ou13a (os : List (List AV)) (hs : List (List AV)) (sp : Int) (tl : Int) (th : Int) (ms : List (List AV)) (b_1 : Bool) (k : Nat) : Ex × St := q13a os hs sp tl th ms b_1 ((k : Nat) : Int)
def N13a (os : List (List AV)) (hs : List (List AV)) (sp : Int) (tl : Int) (th : Int) (ms : List (List AV)) (b_1 : Bool) : Nat := ((↑hs.length : Int) : Int).toNat
def g13a (os : List (List AV)) (hs : List (List AV)) (sp : Int) (tl : Int) (th : Int) (ms : List (List AV)) (b_1 : Bool) : Bool := decide (((↑hs.length : Int) : Int) ≤ 9223372036854775807) && allN (d13a os hs sp tl th ms b_1) (N13a os hs sp tl th ms b_1)
noncomputable def l13a (st : St) : Option (List (Bool × Ex × St)) := match normV Try.prog [1, 2, 3] 0 st with
  | some ([.rp [.sl 32, .sl 71, .int .i64, .int .i64, .int .i64, .sl 46] [.rs 32 os, .rs 71 hs, .i .i64 sp, .i .i64 tl, .i .i64 th, .rs 46 ms] 0, .b b_1, .i .i64 (.ofNat 0)], [], 59) => some [(g13a os hs sp tl th ms b_1 && anyN (e13a os hs sp tl th ms b_1) (N13a os hs sp tl th ms b_1), .ret, (q13a_0 os hs sp tl th ms b_1 (((firstN (e13a os hs sp tl th ms b_1) (N13a os hs sp tl th ms b_1)) : Nat) : Int)).2), (g13a os hs sp tl th ms b_1, .ext 0, st13a os hs sp tl th ms b_1 (N13a os hs sp tl th ms b_1))]
  | _ => none
noncomputable def L13 : LSpec := fun p st => match p with
  | [false, true, false, true, true] => l13a st
  | _ => none
noncomputable def tr13a (os : List (List AV)) (hs : List (List AV)) (sp : Int) (tl : Int) (th : Int) (ms : List (List AV)) (b_1 : Bool) (n_1 : Int) : Option (Ex × St) := cond (inb n_1 hs.length) (cond (longB (cU (hs.getD n_1.toNat []))) (some (.ret, s13a os hs sp tl th ms true n_1)) (cond (longB (cV (hs.getD n_1.toNat []))) (some (.ret, s13a os hs sp tl th ms true n_1)) (cond (longB (c2 (hs.getD n_1.toNat []))) (some (.ret, s13a os hs sp tl th ms true n_1)) (cond (longB (c3 (hs.getD n_1.toNat []))) (some (.ret, s13a os hs sp tl th ms true n_1)) (some (.nrm, s13a os hs sp tl th ms b_1 (IntKind.i64.wrap (n_1 + 1)))))))) (none)
theorem round13a (os : List (List AV)) (hs : List (List AV)) (sp : Int) (tl : Int) (th : Int) (ms : List (List AV)) (b_1 : Bool) (n_1 : Int) : round Try.prog Si (ro 13) L13 lp13a [false, true, false, true, true] [1, 2, 3] 0 (s13a os hs sp tl th ms b_1 n_1) =
    cond (decide (n_1 < (↑hs.length : Int))) (tr13a os hs sp tl th ms b_1 n_1) (some (.ext 0, s13a os hs sp tl th ms b_1 n_1)) := by kernel_rfl
theorem step13a (os : List (List AV)) (hs : List (List AV)) (sp : Int) (tl : Int) (th : Int) (ms : List (List AV)) (b_1 : Bool) (n_1 : Int) (hd : df13a os hs sp tl th ms b_1 n_1 = true) : tr13a os hs sp tl th ms b_1 n_1 = cond (ex13a os hs sp tl th ms b_1 n_1) (some (q13a os hs sp tl th ms b_1 n_1)) (some (.nrm, s13a os hs sp tl th ms b_1 (IntKind.i64.wrap (n_1 + 1)))) := by
  unfold df13a at hd
  unfold ex13a q13a q13a_0 tr13a
  generalize (inb n_1 hs.length) = t0 at *
  generalize (longB (cU (hs.getD n_1.toNat []))) = t1 at *
  generalize (longB (cV (hs.getD n_1.toNat []))) = t2 at *
  generalize (longB (c2 (hs.getD n_1.toNat []))) = t3 at *
  generalize (longB (c3 (hs.getD n_1.toNat []))) = t4 at *
  cases t0 <;> cases t1 <;> cases t2 <;> cases t3 <;> cases t4 <;> first | rfl | (cases hd)
theorem lok13a {st : St} {outs : List (Bool × Ex × St)} {e : Ex} {s : St} {lo : Nat} (hlo : lo ≤ st.nx) (hl : l13a st = some outs) (hch : Chosen outs e s) (hz : lo = 0) :
    ∃ keep nb, lo ≤ nb ∧ LB Try.prog Si (ro 13) L13 lp13a [false, true, false, true, true] keep nb st e s := by
  unfold l13a at hl
  split at hl
  · rename_i os hs sp tl th ms b_1 hno
    cases hl
    have hno := normV_norm hno
    refine LB_forG (n := (N13a os hs sp tl th ms b_1)) (g := g13a os hs sp tl th ms b_1) (stI := fun k => st13a os hs sp tl th ms b_1 k) (ex := e13a os hs sp tl th ms b_1) (out := (fun k => ou13a os hs sp tl th ms b_1 k)) (fin := (.ext 0, st13a os hs sp tl th ms b_1 (N13a os hs sp tl th ms b_1))) hno (Nat.le_trans (Nat.le_of_eq hz) (Nat.zero_le _)) hch (fun k => by simp [ou13a, q13a, q13a_0]) (by simp) (fun hg => ?_)
    obtain ⟨hb, hall⟩ := Bool.and_eq_true_iff.1 hg
    have hb := of_decide_eq_true hb
    refine ⟨fun k hk => ?_, ?_⟩
    · have h1 := lt_toNat hk
      have hd := allN_at hall k hk
      have hw := wrap_succ h1 hb
      show round _ _ _ _ _ _ _ _ (s13a os hs sp tl th ms b_1 ((k : Nat) : Int)) = _
      rw [round13a, show decide _ = true from decide_eq_true h1, cond_true, step13a _ _ _ _ _ _ _ _ hd, hw]
      rfl
    · show round _ _ _ _ _ _ _ _ (s13a os hs sp tl th ms b_1 (((N13a os hs sp tl th ms b_1) : Nat) : Int)) = _
      rw [round13a, show decide ((((N13a os hs sp tl th ms b_1) : Nat) : Int) < ((↑hs.length : Int) : Int)) = false from not_lt_toNat]
      rfl
  · cases hl
theorem L13_ok (q : Pl) (c : Code) (hq : locate c13 q.reverse = some (.loop c)) (st : St) (outs : List (Bool × Ex × St)) (e : Ex) (s : St) (hl : L13 q st = some outs) (hch : Chosen outs e s) :
    ∃ keep nb, LB Try.prog Si (ro 13) L13 c q keep nb st e s := by
  unfold L13 at hl
  split at hl
  · have : locate c13 ([false, true, false, true, true] : Pl).reverse = some (.loop lp13a) := by kernel_rfl
    rw [this] at hq
    cases hq
    obtain ⟨keep, nb, _, h⟩ := lok13a (lo := 0) (Nat.zero_le _) hl hch rfl
    exact ⟨keep, nb, h⟩
  · cases hl
theorem eq13 (os hs ms : List (List AV)) (sp tl th : Int) : evF Try.prog Si (ro 13) L13 Try.f13 [.agg [.rs 32 os, .rs 71 hs, .i .i64 sp, .i .i64 tl, .i .i64 th, .rs 46 ms]] =
    cond (decide ((↑os.length : Int) > 30)) (some (.b true)) (cond (decide ((↑hs.length : Int) > 30)) (some (.b true)) (cond (decide ((↑ms.length : Int) > 60)) (some (.b true)) (cond (g13a os hs sp tl th ms false && anyN (e13a os hs sp tl th ms false) (N13a os hs sp tl th ms false)) (some (.b true)) (cond (g13a os hs sp tl th ms false) (some (.b false)) (none))))) := by kernel_rfl
end Go.Proofs.Yteclfchlejocmaa

set_option maxRecDepth 100000
set_option linter.unusedVariables false
namespace Go.Proofs.Yteclfchlejocmaa
open Go Go.Ev

/-! ### thatchref07.point -/
noncomputable def c59 : Code := match Try.f59.body with | some c => c | _ => .skip
noncomputable def s59a (os : List (List AV)) (hs : List (List AV)) (pu : Int) (pv : Int) (b_1 : Bool) (n_1 : Int) (n_2 : Int) : St :=
  { t := [(2, .rp [.sl 32, .sl 71] [.rs 32 os, .rs 71 hs] 0), (3, .rp [.int .i64, .int .i64] [.i .i64 pu, .i .i64 pv] 0), (4, .b b_1), (5, .i .i64 n_1), (6, .i .i64 n_2)], m := [], nx := 0, nt := 75 }
noncomputable def lp59a : Code := loopAt c59 [true, true, false, true, false]
def ex59a (os : List (List AV)) (hs : List (List AV)) (pu : Int) (pv : Int) (b_1 : Bool) (n_1 : Int) (n_2 : Int) : Bool := decide (leftI (cU (os.getD n_2.toNat [])) (cV (os.getD n_2.toNat [])) (cU (os.getD ((IntKind.i64.wrap (n_2 + 1)).tmod n_1).toNat [])) (cV (os.getD ((IntKind.i64.wrap (n_2 + 1)).tmod n_1).toNat [])) pu pv < 0)
def df59a (os : List (List AV)) (hs : List (List AV)) (pu : Int) (pv : Int) (b_1 : Bool) (n_1 : Int) (n_2 : Int) : Bool := (inb n_2 os.length) && (!(decide (n_1 = 0)) && (inb ((IntKind.i64.wrap (n_2 + 1)).tmod n_1) os.length))
noncomputable def q59a_0 (os : List (List AV)) (hs : List (List AV)) (pu : Int) (pv : Int) (b_1 : Bool) (n_1 : Int) (n_2 : Int) : Ex × St := (.ret, s59a os hs pu pv false n_1 n_2)
noncomputable def q59a (os : List (List AV)) (hs : List (List AV)) (pu : Int) (pv : Int) (b_1 : Bool) (n_1 : Int) (n_2 : Int) : Ex × St := q59a_0 os hs pu pv b_1 n_1 n_2
def e59a (os : List (List AV)) (hs : List (List AV)) (pu : Int) (pv : Int) (b_1 : Bool) (n_1 : Int) (k : Nat) : Bool := ex59a os hs pu pv b_1 n_1 ((k : Nat) : Int)
def d59a (os : List (List AV)) (hs : List (List AV)) (pu : Int) (pv : Int) (b_1 : Bool) (n_1 : Int) (k : Nat) : Bool := df59a os hs pu pv b_1 n_1 ((k : Nat) : Int)
noncomputable def st59a (os : List (List AV)) (hs : List (List AV)) (pu : Int) (pv : Int) (b_1 : Bool) (n_1 : Int) (k : Nat) : St := s59a os hs pu pv b_1 n_1 ((k : Nat) : Int)
noncomputable def ou59a (os : List (List AV)) (hs : List (List AV)) (pu : Int) (pv : Int) (b_1 : Bool) (n_1 : Int) (k : Nat) : Ex × St := q59a os hs pu pv b_1 n_1 ((k : Nat) : Int)
def N59a (os : List (List AV)) (hs : List (List AV)) (pu : Int) (pv : Int) (b_1 : Bool) (n_1 : Int) : Nat := n_1.toNat
def g59a (os : List (List AV)) (hs : List (List AV)) (pu : Int) (pv : Int) (b_1 : Bool) (n_1 : Int) : Bool := decide ((n_1 : Int) ≤ 9223372036854775807) && allN (d59a os hs pu pv b_1 n_1) (N59a os hs pu pv b_1 n_1)
noncomputable def l59a (st : St) : Option (List (Bool × Ex × St)) := match normV Try.prog [2, 3, 4, 5, 6] 0 st with
  | some ([.rp [.sl 32, .sl 71] [.rs 32 os, .rs 71 hs] 0, .rp [.int .i64, .int .i64] [.i .i64 pu, .i .i64 pv] 0, .b b_1, .i .i64 n_1, .i .i64 (.ofNat 0)], [], 75) => some [(g59a os hs pu pv b_1 n_1 && anyN (e59a os hs pu pv b_1 n_1) (N59a os hs pu pv b_1 n_1), .ret, (q59a_0 os hs pu pv b_1 n_1 (((firstN (e59a os hs pu pv b_1 n_1) (N59a os hs pu pv b_1 n_1)) : Nat) : Int)).2), (g59a os hs pu pv b_1 n_1, .ext 0, st59a os hs pu pv b_1 n_1 (N59a os hs pu pv b_1 n_1))]
  | _ => none
noncomputable def s59b (os : List (List AV)) (hs : List (List AV)) (pu : Int) (pv : Int) (b_1 : Bool) (n_1 : Int) : St :=
  { t := [(2, .rp [.sl 32, .sl 71] [.rs 32 os, .rs 71 hs] 0), (3, .rp [.int .i64, .int .i64] [.i .i64 pu, .i .i64 pv] 0), (4, .b b_1), (7, .i .i64 n_1)], m := [], nx := 0, nt := 75 }
noncomputable def lp59b : Code := loopAt c59 [true, true, true, false, true, false]
def ex59b (os : List (List AV)) (hs : List (List AV)) (pu : Int) (pv : Int) (b_1 : Bool) (n_1 : Int) : Bool := (decide (pu > cU (hs.getD n_1.toNat []))) && ((decide (pu < c2 (hs.getD n_1.toNat []))) && ((decide (pv > cV (hs.getD n_1.toNat []))) && (decide (pv < c3 (hs.getD n_1.toNat [])))))
def df59b (os : List (List AV)) (hs : List (List AV)) (pu : Int) (pv : Int) (b_1 : Bool) (n_1 : Int) : Bool := inb n_1 hs.length
noncomputable def q59b_0 (os : List (List AV)) (hs : List (List AV)) (pu : Int) (pv : Int) (b_1 : Bool) (n_1 : Int) : Ex × St := (.ret, s59b os hs pu pv false n_1)
noncomputable def q59b (os : List (List AV)) (hs : List (List AV)) (pu : Int) (pv : Int) (b_1 : Bool) (n_1 : Int) : Ex × St := q59b_0 os hs pu pv b_1 n_1
def e59b (os : List (List AV)) (hs : List (List AV)) (pu : Int) (pv : Int) (b_1 : Bool) (k : Nat) : Bool := ex59b os hs pu pv b_1 ((k : Nat) : Int)
def d59b (os : List (List AV)) (hs : List (List AV)) (pu : Int) (pv : Int) (b_1 : Bool) (k : Nat) : Bool := df59b os hs pu pv b_1 ((k : Nat) : Int)
noncomputable def st59b (os : List (List AV)) (hs : List (List AV)) (pu : Int) (pv : Int) (b_1 : Bool) (k : Nat) : St := s59b os hs pu pv b_1 ((k : Nat) : Int)
noncomputable def ou59b (os : List (List AV)) (hs : List (List AV)) (pu : Int) (pv : Int) (b_1 : Bool) (k : Nat) : Ex × St := q59b os hs pu pv b_1 ((k : Nat) : Int)
def N59b (os : List (List AV)) (hs : List (List AV)) (pu : Int) (pv : Int) (b_1 : Bool) : Nat := ((↑hs.length : Int) : Int).toNat
def g59b (os : List (List AV)) (hs : List (List AV)) (pu : Int) (pv : Int) (b_1 : Bool) : Bool := decide (((↑hs.length : Int) : Int) ≤ 9223372036854775807) && allN (d59b os hs pu pv b_1) (N59b os hs pu pv b_1)
noncomputable def l59b (st : St) : Option (List (Bool × Ex × St)) := match normV Try.prog [2, 3, 4, 7] 0 st with
  | some ([.rp [.sl 32, .sl 71] [.rs 32 os, .rs 71 hs] 0, .rp [.int .i64, .int .i64] [.i .i64 pu, .i .i64 pv] 0, .b b_1, .i .i64 (.ofNat 0)], [], 75) => some [(g59b os hs pu pv b_1 && anyN (e59b os hs pu pv b_1) (N59b os hs pu pv b_1), .ret, (q59b_0 os hs pu pv b_1 (((firstN (e59b os hs pu pv b_1) (N59b os hs pu pv b_1)) : Nat) : Int)).2), (g59b os hs pu pv b_1, .ext 2, st59b os hs pu pv b_1 (N59b os hs pu pv b_1))]
  | _ => none
noncomputable def L59 : LSpec := fun p st => match p with
  | [false, true, false, true, true] => l59a st
  | [false, true, false, true, true, true] => l59b st
  | _ => none
noncomputable def tr59a (os : List (List AV)) (hs : List (List AV)) (pu : Int) (pv : Int) (b_1 : Bool) (n_1 : Int) (n_2 : Int) : Option (Ex × St) := cond (inb n_2 os.length) (cond (decide (n_1 = 0)) (none) (cond (inb ((IntKind.i64.wrap (n_2 + 1)).tmod n_1) os.length) (cond (decide (leftI (cU (os.getD n_2.toNat [])) (cV (os.getD n_2.toNat [])) (cU (os.getD ((IntKind.i64.wrap (n_2 + 1)).tmod n_1).toNat [])) (cV (os.getD ((IntKind.i64.wrap (n_2 + 1)).tmod n_1).toNat [])) pu pv < 0)) (some (.ret, s59a os hs pu pv false n_1 n_2)) (some (.nrm, s59a os hs pu pv b_1 n_1 (IntKind.i64.wrap (n_2 + 1))))) (none))) (none)
theorem round59a (os : List (List AV)) (hs : List (List AV)) (pu : Int) (pv : Int) (b_1 : Bool) (n_1 : Int) (n_2 : Int) : round Try.prog Si (ro 59) L59 lp59a [false, true, false, true, true] [2, 3, 4, 5, 6] 0 (s59a os hs pu pv b_1 n_1 n_2) =
    cond (decide (n_2 < n_1)) (tr59a os hs pu pv b_1 n_1 n_2) (some (.ext 0, s59a os hs pu pv b_1 n_1 n_2)) := by kernel_rfl
theorem step59a (os : List (List AV)) (hs : List (List AV)) (pu : Int) (pv : Int) (b_1 : Bool) (n_1 : Int) (n_2 : Int) (hd : df59a os hs pu pv b_1 n_1 n_2 = true) : tr59a os hs pu pv b_1 n_1 n_2 = cond (ex59a os hs pu pv b_1 n_1 n_2) (some (q59a os hs pu pv b_1 n_1 n_2)) (some (.nrm, s59a os hs pu pv b_1 n_1 (IntKind.i64.wrap (n_2 + 1)))) := by
  unfold df59a at hd
  unfold ex59a q59a q59a_0 tr59a
  generalize (inb n_2 os.length) = t0 at *
  generalize (decide (n_1 = 0)) = t1 at *
  generalize (inb ((IntKind.i64.wrap (n_2 + 1)).tmod n_1) os.length) = t2 at *
  generalize (decide (leftI (cU (os.getD n_2.toNat [])) (cV (os.getD n_2.toNat [])) (cU (os.getD ((IntKind.i64.wrap (n_2 + 1)).tmod n_1).toNat [])) (cV (os.getD ((IntKind.i64.wrap (n_2 + 1)).tmod n_1).toNat [])) pu pv < 0)) = t3 at *
  cases t0 <;> cases t1 <;> cases t2 <;> cases t3 <;> first | rfl | (cases hd)
theorem lok59a {st : St} {outs : List (Bool × Ex × St)} {e : Ex} {s : St} {lo : Nat} (hlo : lo ≤ st.nx) (hl : l59a st = some outs) (hch : Chosen outs e s) (hz : lo = 0) :
    ∃ keep nb, lo ≤ nb ∧ LB Try.prog Si (ro 59) L59 lp59a [false, true, false, true, true] keep nb st e s := by
  unfold l59a at hl
  split at hl
  · rename_i os hs pu pv b_1 n_1 hno
    cases hl
    have hno := normV_norm hno
    refine LB_forG (n := (N59a os hs pu pv b_1 n_1)) (g := g59a os hs pu pv b_1 n_1) (stI := fun k => st59a os hs pu pv b_1 n_1 k) (ex := e59a os hs pu pv b_1 n_1) (out := (fun k => ou59a os hs pu pv b_1 n_1 k)) (fin := (.ext 0, st59a os hs pu pv b_1 n_1 (N59a os hs pu pv b_1 n_1))) hno (Nat.le_trans (Nat.le_of_eq hz) (Nat.zero_le _)) hch (fun k => by simp [ou59a, q59a, q59a_0]) (by simp) (fun hg => ?_)
    obtain ⟨hb, hall⟩ := Bool.and_eq_true_iff.1 hg
    have hb := of_decide_eq_true hb
    refine ⟨fun k hk => ?_, ?_⟩
    · have h1 := lt_toNat hk
      have hd := allN_at hall k hk
      have hw := wrap_succ h1 hb
      show round _ _ _ _ _ _ _ _ (s59a os hs pu pv b_1 n_1 ((k : Nat) : Int)) = _
      rw [round59a, show decide _ = true from decide_eq_true h1, cond_true, step59a _ _ _ _ _ _ _ hd, hw]
      rfl
    · show round _ _ _ _ _ _ _ _ (s59a os hs pu pv b_1 n_1 (((N59a os hs pu pv b_1 n_1) : Nat) : Int)) = _
      rw [round59a, show decide ((((N59a os hs pu pv b_1 n_1) : Nat) : Int) < (n_1 : Int)) = false from not_lt_toNat]
      rfl
  · cases hl
noncomputable def tr59b (os : List (List AV)) (hs : List (List AV)) (pu : Int) (pv : Int) (b_1 : Bool) (n_1 : Int) : Option (Ex × St) := cond (inb n_1 hs.length) (cond (decide (pu > cU (hs.getD n_1.toNat []))) (cond (decide (pu < c2 (hs.getD n_1.toNat []))) (cond (decide (pv > cV (hs.getD n_1.toNat []))) (cond (decide (pv < c3 (hs.getD n_1.toNat []))) (some (.ret, s59b os hs pu pv false n_1)) (some (.nrm, s59b os hs pu pv b_1 (IntKind.i64.wrap (n_1 + 1))))) (some (.nrm, s59b os hs pu pv b_1 (IntKind.i64.wrap (n_1 + 1))))) (some (.nrm, s59b os hs pu pv b_1 (IntKind.i64.wrap (n_1 + 1))))) (some (.nrm, s59b os hs pu pv b_1 (IntKind.i64.wrap (n_1 + 1))))) (none)
theorem round59b (os : List (List AV)) (hs : List (List AV)) (pu : Int) (pv : Int) (b_1 : Bool) (n_1 : Int) : round Try.prog Si (ro 59) L59 lp59b [false, true, false, true, true, true] [2, 3, 4, 7] 0 (s59b os hs pu pv b_1 n_1) =
    cond (decide (n_1 < (↑hs.length : Int))) (tr59b os hs pu pv b_1 n_1) (some (.ext 2, s59b os hs pu pv b_1 n_1)) := by kernel_rfl
theorem step59b (os : List (List AV)) (hs : List (List AV)) (pu : Int) (pv : Int) (b_1 : Bool) (n_1 : Int) (hd : df59b os hs pu pv b_1 n_1 = true) : tr59b os hs pu pv b_1 n_1 = cond (ex59b os hs pu pv b_1 n_1) (some (q59b os hs pu pv b_1 n_1)) (some (.nrm, s59b os hs pu pv b_1 (IntKind.i64.wrap (n_1 + 1)))) := by
  unfold df59b at hd
  unfold ex59b q59b q59b_0 tr59b
  generalize (inb n_1 hs.length) = t0 at *
  generalize (decide (pu > cU (hs.getD n_1.toNat []))) = t1 at *
  generalize (decide (pu < c2 (hs.getD n_1.toNat []))) = t2 at *
  generalize (decide (pv > cV (hs.getD n_1.toNat []))) = t3 at *
  generalize (decide (pv < c3 (hs.getD n_1.toNat []))) = t4 at *
  cases t0 <;> cases t1 <;> cases t2 <;> cases t3 <;> cases t4 <;> first | rfl | (cases hd)
theorem lok59b {st : St} {outs : List (Bool × Ex × St)} {e : Ex} {s : St} {lo : Nat} (hlo : lo ≤ st.nx) (hl : l59b st = some outs) (hch : Chosen outs e s) (hz : lo = 0) :
    ∃ keep nb, lo ≤ nb ∧ LB Try.prog Si (ro 59) L59 lp59b [false, true, false, true, true, true] keep nb st e s := by
  unfold l59b at hl
  split at hl
  · rename_i os hs pu pv b_1 hno
    cases hl
    have hno := normV_norm hno
    refine LB_forG (n := (N59b os hs pu pv b_1)) (g := g59b os hs pu pv b_1) (stI := fun k => st59b os hs pu pv b_1 k) (ex := e59b os hs pu pv b_1) (out := (fun k => ou59b os hs pu pv b_1 k)) (fin := (.ext 2, st59b os hs pu pv b_1 (N59b os hs pu pv b_1))) hno (Nat.le_trans (Nat.le_of_eq hz) (Nat.zero_le _)) hch (fun k => by simp [ou59b, q59b, q59b_0]) (by simp) (fun hg => ?_)
    obtain ⟨hb, hall⟩ := Bool.and_eq_true_iff.1 hg
    have hb := of_decide_eq_true hb
    refine ⟨fun k hk => ?_, ?_⟩
    · have h1 := lt_toNat hk
      have hd := allN_at hall k hk
      have hw := wrap_succ h1 hb
      show round _ _ _ _ _ _ _ _ (s59b os hs pu pv b_1 ((k : Nat) : Int)) = _
      rw [round59b, show decide _ = true from decide_eq_true h1, cond_true, step59b _ _ _ _ _ _ hd, hw]
      rfl
    · show round _ _ _ _ _ _ _ _ (s59b os hs pu pv b_1 (((N59b os hs pu pv b_1) : Nat) : Int)) = _
      rw [round59b, show decide ((((N59b os hs pu pv b_1) : Nat) : Int) < ((↑hs.length : Int) : Int)) = false from not_lt_toNat]
      rfl
  · cases hl
theorem L59_ok (q : Pl) (c : Code) (hq : locate c59 q.reverse = some (.loop c)) (st : St) (outs : List (Bool × Ex × St)) (e : Ex) (s : St) (hl : L59 q st = some outs) (hch : Chosen outs e s) :
    ∃ keep nb, LB Try.prog Si (ro 59) L59 c q keep nb st e s := by
  unfold L59 at hl
  split at hl
  · have : locate c59 ([false, true, false, true, true] : Pl).reverse = some (.loop lp59a) := by kernel_rfl
    rw [this] at hq
    cases hq
    obtain ⟨keep, nb, _, h⟩ := lok59a (lo := 0) (Nat.zero_le _) hl hch rfl
    exact ⟨keep, nb, h⟩
  · have : locate c59 ([false, true, false, true, true, true] : Pl).reverse = some (.loop lp59b) := by kernel_rfl
    rw [this] at hq
    cases hq
    obtain ⟨keep, nb, _, h⟩ := lok59b (lo := 0) (Nat.zero_le _) hl hch rfl
    exact ⟨keep, nb, h⟩
  · cases hl
theorem eq59 (os hs : List (List AV)) (pu pv : Int) : evF Try.prog Si (ro 59) L59 Try.f59 [.agg [.rs 32 os, .rs 71 hs], .agg [.i .i64 pu, .i .i64 pv]] =
    cond (g59a os hs pu pv false (↑os.length : Int) && anyN (e59a os hs pu pv false (↑os.length : Int)) (N59a os hs pu pv false (↑os.length : Int))) (some (.b false)) (cond (g59a os hs pu pv false (↑os.length : Int)) (cond (g59b os hs pu pv false && anyN (e59b os hs pu pv false) (N59b os hs pu pv false)) (some (.b false)) (cond (g59b os hs pu pv false) (some (.b true)) (none))) (none)) := by kernel_rfl
end Go.Proofs.Yteclfchlejocmaa

set_option maxRecDepth 100000
set_option linter.unusedVariables false
namespace Go.Proofs.Yteclfchlejocmaa
open Go Go.Ev

/-! ### thatchref07.bounds -/
noncomputable def c35 : Code := match Try.f35.body with | some c => c | _ => .skip
noncomputable def s35a (os : List (List AV)) (hs : List (List AV)) (sp : Int) (tl : Int) (th : Int) (ms : List (List AV)) (pu : Int) (pv : Int) (n_1 : Int) (n_2 : Int) (n_3 : Int) (tl_1 : Int) (th_1 : Int) : St :=
  { t := [(2, .rp [.sl 32, .sl 71, .int .i64, .int .i64, .int .i64, .sl 46] [.rs 32 os, .rs 71 hs, .i .i64 sp, .i .i64 tl, .i .i64 th, .rs 46 ms] 0), (3, .rp [.int .i64, .int .i64] [.i .i64 pu, .i .i64 pv] 0), (4, .p 2 0 0), (5, .p 5 0 0), (6, .i .i64 n_1)], m := [(0, .dead), (1, .dead), (2, .row 27 [[.i .i64 n_2, .i .i64 n_3]]), (3, .dead), (4, .dead), (5, .row 27 [[.i .i64 tl_1, .i .i64 th_1]])], nx := 6, nt := 55 }
noncomputable def lp35a : Code := loopAt c35 [true, true, false, true, false]
def ex35a (os : List (List AV)) (hs : List (List AV)) (sp : Int) (tl : Int) (th : Int) (ms : List (List AV)) (pu : Int) (pv : Int) (n_1 : Int) (n_2 : Int) (n_3 : Int) (tl_1 : Int) (th_1 : Int) : Bool := false
def df35a (os : List (List AV)) (hs : List (List AV)) (sp : Int) (tl : Int) (th : Int) (ms : List (List AV)) (pu : Int) (pv : Int) (n_1 : Int) (n_2 : Int) (n_3 : Int) (tl_1 : Int) (th_1 : Int) : Bool := (inb n_1 ms.length) && ((inb n_1 ms.length) && (inb n_1 ms.length))
def nx35a_0 (os : List (List AV)) (hs : List (List AV)) (sp : Int) (tl : Int) (th : Int) (ms : List (List AV)) (pu : Int) (pv : Int) (n_1 : Int) (n_2 : Int) (n_3 : Int) (tl_1 : Int) (th_1 : Int) : Int := bmax tl_1 (IntKind.i64.wrap (c2 (ms.getD n_1.toNat []) - IntKind.i64.wrap (sp * farI pu pv (cU (ms.getD n_1.toNat [])) (cV (ms.getD n_1.toNat [])))))
def nx35a_1 (os : List (List AV)) (hs : List (List AV)) (sp : Int) (tl : Int) (th : Int) (ms : List (List AV)) (pu : Int) (pv : Int) (n_1 : Int) (n_2 : Int) (n_3 : Int) (tl_1 : Int) (th_1 : Int) : Int := bmin th_1 (IntKind.i64.wrap (c3 (ms.getD n_1.toNat []) + IntKind.i64.wrap (sp * farI pu pv (cU (ms.getD n_1.toNat [])) (cV (ms.getD n_1.toNat [])))))
def a35a (os : List (List AV)) (hs : List (List AV)) (sp : Int) (tl : Int) (th : Int) (ms : List (List AV)) (pu : Int) (pv : Int) (n_2 : Int) (n_3 : Int) (tl_1 : Int) (th_1 : Int) : Nat → Int × Int
  | 0 => (tl_1, th_1)
  | k + 1 => (nx35a_0 os hs sp tl th ms pu pv ((k : Nat) : Int) n_2 n_3 (((a35a os hs sp tl th ms pu pv n_2 n_3 tl_1 th_1 k)).1) (((a35a os hs sp tl th ms pu pv n_2 n_3 tl_1 th_1 k)).2), nx35a_1 os hs sp tl th ms pu pv ((k : Nat) : Int) n_2 n_3 (((a35a os hs sp tl th ms pu pv n_2 n_3 tl_1 th_1 k)).1) (((a35a os hs sp tl th ms pu pv n_2 n_3 tl_1 th_1 k)).2))
def e35a (os : List (List AV)) (hs : List (List AV)) (sp : Int) (tl : Int) (th : Int) (ms : List (List AV)) (pu : Int) (pv : Int) (n_2 : Int) (n_3 : Int) (tl_1 : Int) (th_1 : Int) (k : Nat) : Bool := ex35a os hs sp tl th ms pu pv ((k : Nat) : Int) n_2 n_3 ((a35a os hs sp tl th ms pu pv n_2 n_3 tl_1 th_1 k).1) ((a35a os hs sp tl th ms pu pv n_2 n_3 tl_1 th_1 k).2)
def d35a (os : List (List AV)) (hs : List (List AV)) (sp : Int) (tl : Int) (th : Int) (ms : List (List AV)) (pu : Int) (pv : Int) (n_2 : Int) (n_3 : Int) (tl_1 : Int) (th_1 : Int) (k : Nat) : Bool := df35a os hs sp tl th ms pu pv ((k : Nat) : Int) n_2 n_3 ((a35a os hs sp tl th ms pu pv n_2 n_3 tl_1 th_1 k).1) ((a35a os hs sp tl th ms pu pv n_2 n_3 tl_1 th_1 k).2)
noncomputable def st35a (os : List (List AV)) (hs : List (List AV)) (sp : Int) (tl : Int) (th : Int) (ms : List (List AV)) (pu : Int) (pv : Int) (n_2 : Int) (n_3 : Int) (tl_1 : Int) (th_1 : Int) (k : Nat) : St := s35a os hs sp tl th ms pu pv ((k : Nat) : Int) n_2 n_3 ((a35a os hs sp tl th ms pu pv n_2 n_3 tl_1 th_1 k).1) ((a35a os hs sp tl th ms pu pv n_2 n_3 tl_1 th_1 k).2)
def N35a (os : List (List AV)) (hs : List (List AV)) (sp : Int) (tl : Int) (th : Int) (ms : List (List AV)) (pu : Int) (pv : Int) (n_2 : Int) (n_3 : Int) (tl_1 : Int) (th_1 : Int) : Nat := (↑ms.length : Int).toNat
def g35a (os : List (List AV)) (hs : List (List AV)) (sp : Int) (tl : Int) (th : Int) (ms : List (List AV)) (pu : Int) (pv : Int) (n_2 : Int) (n_3 : Int) (tl_1 : Int) (th_1 : Int) : Bool := decide ((↑ms.length : Int) ≤ 9223372036854775807) && allN (d35a os hs sp tl th ms pu pv n_2 n_3 tl_1 th_1) (N35a os hs sp tl th ms pu pv n_2 n_3 tl_1 th_1)
noncomputable def l35a (st : St) : Option (List (Bool × Ex × St)) := match normV Try.prog [2, 3, 4, 5, 6] 6 st with
  | some ([.rp [.sl 32, .sl 71, .int .i64, .int .i64, .int .i64, .sl 46] [.rs 32 os, .rs 71 hs, .i .i64 sp, .i .i64 tl, .i .i64 th, .rs 46 ms] 0, .rp [.int .i64, .int .i64] [.i .i64 pu, .i .i64 pv] 0, .p 2 0 0, .p 5 0 0, .i .i64 (.ofNat 0)], [.dead, .dead, .row 27 [[.i .i64 n_2, .i .i64 n_3]], .dead, .dead, .row 27 [[.i .i64 tl_1, .i .i64 th_1]]], 55) => some [(g35a os hs sp tl th ms pu pv n_2 n_3 tl_1 th_1, .ext 0, st35a os hs sp tl th ms pu pv n_2 n_3 tl_1 th_1 (N35a os hs sp tl th ms pu pv n_2 n_3 tl_1 th_1))]
  | _ => none
noncomputable def L35 : LSpec := fun p st => match p with
  | [false, true, false, true, true] => l35a st
  | _ => none
noncomputable def tr35a (os : List (List AV)) (hs : List (List AV)) (sp : Int) (tl : Int) (th : Int) (ms : List (List AV)) (pu : Int) (pv : Int) (n_1 : Int) (n_2 : Int) (n_3 : Int) (tl_1 : Int) (th_1 : Int) : Option (Ex × St) := cond (inb n_1 ms.length) (cond (inb n_1 ms.length) (cond (inb n_1 ms.length) (some (.nrm, s35a os hs sp tl th ms pu pv (IntKind.i64.wrap (n_1 + 1)) n_2 n_3 (bmax tl_1 (IntKind.i64.wrap (c2 (ms.getD n_1.toNat []) - IntKind.i64.wrap (sp * farI pu pv (cU (ms.getD n_1.toNat [])) (cV (ms.getD n_1.toNat [])))))) (bmin th_1 (IntKind.i64.wrap (c3 (ms.getD n_1.toNat []) + IntKind.i64.wrap (sp * farI pu pv (cU (ms.getD n_1.toNat [])) (cV (ms.getD n_1.toNat [])))))))) (none)) (none)) (none)
theorem round35a (os : List (List AV)) (hs : List (List AV)) (sp : Int) (tl : Int) (th : Int) (ms : List (List AV)) (pu : Int) (pv : Int) (n_1 : Int) (n_2 : Int) (n_3 : Int) (tl_1 : Int) (th_1 : Int) : round Try.prog Si (ro 35) L35 lp35a [false, true, false, true, true] [2, 3, 4, 5, 6] 6 (s35a os hs sp tl th ms pu pv n_1 n_2 n_3 tl_1 th_1) =
    cond (decide (n_1 < ↑ms.length)) (tr35a os hs sp tl th ms pu pv n_1 n_2 n_3 tl_1 th_1) (some (.ext 0, s35a os hs sp tl th ms pu pv n_1 n_2 n_3 tl_1 th_1)) := by kernel_rfl
theorem step35a (os : List (List AV)) (hs : List (List AV)) (sp : Int) (tl : Int) (th : Int) (ms : List (List AV)) (pu : Int) (pv : Int) (n_1 : Int) (n_2 : Int) (n_3 : Int) (tl_1 : Int) (th_1 : Int) (hd : df35a os hs sp tl th ms pu pv n_1 n_2 n_3 tl_1 th_1 = true) : tr35a os hs sp tl th ms pu pv n_1 n_2 n_3 tl_1 th_1 = cond (ex35a os hs sp tl th ms pu pv n_1 n_2 n_3 tl_1 th_1) (some ((.ret, s35a os hs sp tl th ms pu pv n_1 n_2 n_3 tl_1 th_1))) (some (.nrm, s35a os hs sp tl th ms pu pv (IntKind.i64.wrap (n_1 + 1)) n_2 n_3 (nx35a_0 os hs sp tl th ms pu pv n_1 n_2 n_3 tl_1 th_1) (nx35a_1 os hs sp tl th ms pu pv n_1 n_2 n_3 tl_1 th_1))) := by
  unfold df35a at hd
  unfold ex35a nx35a_0 nx35a_1 tr35a
  generalize (inb n_1 ms.length) = t0 at *
  cases t0 <;> first | rfl | (cases hd)
theorem lok35a {st : St} {outs : List (Bool × Ex × St)} {e : Ex} {s : St} {lo : Nat} (hlo : lo ≤ st.nx) (hl : l35a st = some outs) (hch : Chosen outs e s) (hz : lo = 0) :
    ∃ keep nb, lo ≤ nb ∧ LB Try.prog Si (ro 35) L35 lp35a [false, true, false, true, true] keep nb st e s := by
  unfold l35a at hl
  split at hl
  · rename_i os hs sp tl th ms pu pv n_2 n_3 tl_1 th_1 hno
    cases hl
    have hno := normV_norm hno
    refine LB_forN (n := (N35a os hs sp tl th ms pu pv n_2 n_3 tl_1 th_1)) (g := g35a os hs sp tl th ms pu pv n_2 n_3 tl_1 th_1) (stI := fun k => st35a os hs sp tl th ms pu pv n_2 n_3 tl_1 th_1 k) (fin := (.ext 0, st35a os hs sp tl th ms pu pv n_2 n_3 tl_1 th_1 (N35a os hs sp tl th ms pu pv n_2 n_3 tl_1 th_1))) hno (Nat.le_trans (Nat.le_of_eq hz) (Nat.zero_le _)) hch (by simp) (fun hg => ?_)
    obtain ⟨hb, hall⟩ := Bool.and_eq_true_iff.1 hg
    have hb := of_decide_eq_true hb
    refine ⟨fun k hk => ?_, ?_⟩
    · have h1 := lt_toNat hk
      have hd := allN_at hall k hk
      have hw := wrap_succ h1 hb
      show round _ _ _ _ _ _ _ _ (s35a os hs sp tl th ms pu pv ((k : Nat) : Int) n_2 n_3 ((a35a os hs sp tl th ms pu pv n_2 n_3 tl_1 th_1 k).1) ((a35a os hs sp tl th ms pu pv n_2 n_3 tl_1 th_1 k).2)) = _
      rw [round35a, show decide _ = true from decide_eq_true h1, cond_true, step35a _ _ _ _ _ _ _ _ _ _ _ _ _ hd, hw]
      show cond (e35a os hs sp tl th ms pu pv n_2 n_3 tl_1 th_1 k) _ _ = _
      rw [show e35a os hs sp tl th ms pu pv n_2 n_3 tl_1 th_1 k = false from rfl]
      rfl
    · show round _ _ _ _ _ _ _ _ (s35a os hs sp tl th ms pu pv (((N35a os hs sp tl th ms pu pv n_2 n_3 tl_1 th_1) : Nat) : Int) n_2 n_3 ((a35a os hs sp tl th ms pu pv n_2 n_3 tl_1 th_1 ((N35a os hs sp tl th ms pu pv n_2 n_3 tl_1 th_1))).1) ((a35a os hs sp tl th ms pu pv n_2 n_3 tl_1 th_1 ((N35a os hs sp tl th ms pu pv n_2 n_3 tl_1 th_1))).2)) = _
      rw [round35a, show decide ((((N35a os hs sp tl th ms pu pv n_2 n_3 tl_1 th_1) : Nat) : Int) < (↑ms.length : Int)) = false from not_lt_toNat]
      rfl
  · cases hl
theorem L35_ok (q : Pl) (c : Code) (hq : locate c35 q.reverse = some (.loop c)) (st : St) (outs : List (Bool × Ex × St)) (e : Ex) (s : St) (hl : L35 q st = some outs) (hch : Chosen outs e s) :
    ∃ keep nb, LB Try.prog Si (ro 35) L35 c q keep nb st e s := by
  unfold L35 at hl
  split at hl
  · have : locate c35 ([false, true, false, true, true] : Pl).reverse = some (.loop lp35a) := by kernel_rfl
    rw [this] at hq
    cases hq
    obtain ⟨keep, nb, _, h⟩ := lok35a (lo := 0) (Nat.zero_le _) hl hch rfl
    exact ⟨keep, nb, h⟩
  · cases hl
theorem eq35 (os hs ms : List (List AV)) (sp tl th : Int) (pu pv : Int) : evF Try.prog Si (ro 35) L35 Try.f35 [.agg [.rs 32 os, .rs 71 hs, .i .i64 sp, .i .i64 tl, .i .i64 th, .rs 46 ms], .agg [.i .i64 pu, .i .i64 pv]] =
    cond (g35a os hs sp tl th ms pu pv 0 0 tl th) (some (.agg [.i .i64 ((a35a os hs sp tl th ms pu pv 0 0 tl th (N35a os hs sp tl th ms pu pv 0 0 tl th)).fst), .i .i64 ((a35a os hs sp tl th ms pu pv 0 0 tl th (N35a os hs sp tl th ms pu pv 0 0 tl th)).snd)])) (none) := by kernel_rfl
end Go.Proofs.Yteclfchlejocmaa

set_option maxRecDepth 100000
set_option linter.unusedVariables false
namespace Go.Proofs.Yteclfchlejocmaa
open Go Go.Ev

/-! ### thatchref07.agree -/
noncomputable def c46 : Code := match Try.f46.body with | some c => c | _ => .skip
noncomputable def s46a (os : List (List AV)) (hs : List (List AV)) (sp : Int) (tl : Int) (th : Int) (ms : List (List AV)) (b_1 : Bool) (n_1 : Int) : St :=
  { t := [(1, .rp [.sl 32, .sl 71, .int .i64, .int .i64, .int .i64, .sl 46] [.rs 32 os, .rs 71 hs, .i .i64 sp, .i .i64 tl, .i .i64 th, .rs 46 ms] 0), (2, .b b_1), (3, .i .i64 n_1)], m := [], nx := 0, nt := 63 }
noncomputable def lp46a : Code := loopAt c46 [true, false, true, false]
noncomputable def s46aa (os : List (List AV)) (hs : List (List AV)) (sp : Int) (tl : Int) (th : Int) (ms : List (List AV)) (b_1 : Bool) (n_1 : Int) (n_2 : Int) (n_3 : Int) (n_4 : Int) (n_5 : Int) (n_6 : Int) : St :=
  { t := [(1, .rp [.sl 32, .sl 71, .int .i64, .int .i64, .int .i64, .sl 46] [.rs 32 os, .rs 71 hs, .i .i64 sp, .i .i64 tl, .i .i64 th, .rs 46 ms] 0), (2, .b b_1), (3, .i .i64 n_1), (4, .p 10 0 0), (5, .i .i64 n_2)], m := [(0, .dead), (1, .dead), (2, .dead), (3, .dead), (4, .dead), (5, .dead), (6, .dead), (7, .dead), (8, .dead), (9, .dead), (10, .row 46 [[.i .i64 n_3, .i .i64 n_4, .i .i64 n_5, .i .i64 n_6]])], nx := 11, nt := 63 }
noncomputable def lp46aa : Code := loopAt c46 [true, false, true, false, false, true, false, false, true, true, true, false]
def ex46aa (os : List (List AV)) (hs : List (List AV)) (sp : Int) (tl : Int) (th : Int) (ms : List (List AV)) (b_1 : Bool) (n_1 : Int) (n_2 : Int) (n_3 : Int) (n_4 : Int) (n_5 : Int) (n_6 : Int) : Bool := decide (n_5 > IntKind.i64.wrap (c3 (ms.getD n_2.toNat []) + IntKind.i64.wrap (sp * farI n_3 n_4 (cU (ms.getD n_2.toNat [])) (cV (ms.getD n_2.toNat [])))))
def df46aa (os : List (List AV)) (hs : List (List AV)) (sp : Int) (tl : Int) (th : Int) (ms : List (List AV)) (b_1 : Bool) (n_1 : Int) (n_2 : Int) (n_3 : Int) (n_4 : Int) (n_5 : Int) (n_6 : Int) : Bool := inb n_2 ms.length
noncomputable def q46aa_0 (os : List (List AV)) (hs : List (List AV)) (sp : Int) (tl : Int) (th : Int) (ms : List (List AV)) (b_1 : Bool) (n_1 : Int) (n_2 : Int) (n_3 : Int) (n_4 : Int) (n_5 : Int) (n_6 : Int) : Ex × St := (.ret, s46aa os hs sp tl th ms false n_1 n_2 n_3 n_4 n_5 n_6)
noncomputable def q46aa (os : List (List AV)) (hs : List (List AV)) (sp : Int) (tl : Int) (th : Int) (ms : List (List AV)) (b_1 : Bool) (n_1 : Int) (n_2 : Int) (n_3 : Int) (n_4 : Int) (n_5 : Int) (n_6 : Int) : Ex × St := q46aa_0 os hs sp tl th ms b_1 n_1 n_2 n_3 n_4 n_5 n_6
def e46aa (os : List (List AV)) (hs : List (List AV)) (sp : Int) (tl : Int) (th : Int) (ms : List (List AV)) (b_1 : Bool) (n_1 : Int) (n_3 : Int) (n_4 : Int) (n_5 : Int) (n_6 : Int) (k : Nat) : Bool := ex46aa os hs sp tl th ms b_1 n_1 ((k : Nat) : Int) n_3 n_4 n_5 n_6
def d46aa (os : List (List AV)) (hs : List (List AV)) (sp : Int) (tl : Int) (th : Int) (ms : List (List AV)) (b_1 : Bool) (n_1 : Int) (n_3 : Int) (n_4 : Int) (n_5 : Int) (n_6 : Int) (k : Nat) : Bool := df46aa os hs sp tl th ms b_1 n_1 ((k : Nat) : Int) n_3 n_4 n_5 n_6
noncomputable def st46aa (os : List (List AV)) (hs : List (List AV)) (sp : Int) (tl : Int) (th : Int) (ms : List (List AV)) (b_1 : Bool) (n_1 : Int) (n_3 : Int) (n_4 : Int) (n_5 : Int) (n_6 : Int) (k : Nat) : St := s46aa os hs sp tl th ms b_1 n_1 ((k : Nat) : Int) n_3 n_4 n_5 n_6
noncomputable def ou46aa (os : List (List AV)) (hs : List (List AV)) (sp : Int) (tl : Int) (th : Int) (ms : List (List AV)) (b_1 : Bool) (n_1 : Int) (n_3 : Int) (n_4 : Int) (n_5 : Int) (n_6 : Int) (k : Nat) : Ex × St := q46aa os hs sp tl th ms b_1 n_1 ((k : Nat) : Int) n_3 n_4 n_5 n_6
def N46aa (os : List (List AV)) (hs : List (List AV)) (sp : Int) (tl : Int) (th : Int) (ms : List (List AV)) (b_1 : Bool) (n_1 : Int) (n_3 : Int) (n_4 : Int) (n_5 : Int) (n_6 : Int) : Nat := ((↑ms.length : Int) : Int).toNat
def g46aa (os : List (List AV)) (hs : List (List AV)) (sp : Int) (tl : Int) (th : Int) (ms : List (List AV)) (b_1 : Bool) (n_1 : Int) (n_3 : Int) (n_4 : Int) (n_5 : Int) (n_6 : Int) : Bool := decide (((↑ms.length : Int) : Int) ≤ 9223372036854775807) && allN (d46aa os hs sp tl th ms b_1 n_1 n_3 n_4 n_5 n_6) (N46aa os hs sp tl th ms b_1 n_1 n_3 n_4 n_5 n_6)
noncomputable def l46aa (st : St) : Option (List (Bool × Ex × St)) := match normV Try.prog [1, 2, 3, 4, 5] 11 st with
  | some ([.rp [.sl 32, .sl 71, .int .i64, .int .i64, .int .i64, .sl 46] [.rs 32 os, .rs 71 hs, .i .i64 sp, .i .i64 tl, .i .i64 th, .rs 46 ms] 0, .b b_1, .i .i64 n_1, .p 10 0 0, .i .i64 (.ofNat 0)], [.dead, .dead, .dead, .dead, .dead, .dead, .dead, .dead, .dead, .dead, .row 46 [[.i .i64 n_3, .i .i64 n_4, .i .i64 n_5, .i .i64 n_6]]], 63) => some [(g46aa os hs sp tl th ms b_1 n_1 n_3 n_4 n_5 n_6 && anyN (e46aa os hs sp tl th ms b_1 n_1 n_3 n_4 n_5 n_6) (N46aa os hs sp tl th ms b_1 n_1 n_3 n_4 n_5 n_6), .ret, (q46aa_0 os hs sp tl th ms b_1 n_1 (((firstN (e46aa os hs sp tl th ms b_1 n_1 n_3 n_4 n_5 n_6) (N46aa os hs sp tl th ms b_1 n_1 n_3 n_4 n_5 n_6)) : Nat) : Int) n_3 n_4 n_5 n_6).2), (g46aa os hs sp tl th ms b_1 n_1 n_3 n_4 n_5 n_6, .ext 2, st46aa os hs sp tl th ms b_1 n_1 n_3 n_4 n_5 n_6 (N46aa os hs sp tl th ms b_1 n_1 n_3 n_4 n_5 n_6))]
  | _ => none
def ex46a (os : List (List AV)) (hs : List (List AV)) (sp : Int) (tl : Int) (th : Int) (ms : List (List AV)) (b_1 : Bool) (n_1 : Int) : Bool := (decide (c2 (ms.getD n_1.toNat []) > th)) || ((decide (c3 (ms.getD n_1.toNat []) < tl)) || (g46aa os hs sp tl th ms b_1 n_1 (cU (ms.getD n_1.toNat [])) (cV (ms.getD n_1.toNat [])) (c2 (ms.getD n_1.toNat [])) (c3 (ms.getD n_1.toNat [])) && anyN (e46aa os hs sp tl th ms b_1 n_1 (cU (ms.getD n_1.toNat [])) (cV (ms.getD n_1.toNat [])) (c2 (ms.getD n_1.toNat [])) (c3 (ms.getD n_1.toNat []))) (N46aa os hs sp tl th ms b_1 n_1 (cU (ms.getD n_1.toNat [])) (cV (ms.getD n_1.toNat [])) (c2 (ms.getD n_1.toNat [])) (c3 (ms.getD n_1.toNat [])))))
def df46a (os : List (List AV)) (hs : List (List AV)) (sp : Int) (tl : Int) (th : Int) (ms : List (List AV)) (b_1 : Bool) (n_1 : Int) : Bool := (inb n_1 ms.length) && ((decide (c2 (ms.getD n_1.toNat []) > th)) || ((decide (c3 (ms.getD n_1.toNat []) < tl)) || ((g46aa os hs sp tl th ms b_1 n_1 (cU (ms.getD n_1.toNat [])) (cV (ms.getD n_1.toNat [])) (c2 (ms.getD n_1.toNat [])) (c3 (ms.getD n_1.toNat [])) && anyN (e46aa os hs sp tl th ms b_1 n_1 (cU (ms.getD n_1.toNat [])) (cV (ms.getD n_1.toNat [])) (c2 (ms.getD n_1.toNat [])) (c3 (ms.getD n_1.toNat []))) (N46aa os hs sp tl th ms b_1 n_1 (cU (ms.getD n_1.toNat [])) (cV (ms.getD n_1.toNat [])) (c2 (ms.getD n_1.toNat [])) (c3 (ms.getD n_1.toNat [])))) || (g46aa os hs sp tl th ms b_1 n_1 (cU (ms.getD n_1.toNat [])) (cV (ms.getD n_1.toNat [])) (c2 (ms.getD n_1.toNat [])) (c3 (ms.getD n_1.toNat []))))))
noncomputable def q46a_0 (os : List (List AV)) (hs : List (List AV)) (sp : Int) (tl : Int) (th : Int) (ms : List (List AV)) (b_1 : Bool) (n_1 : Int) : Ex × St := (.ret, s46a os hs sp tl th ms false n_1)
noncomputable def q46a (os : List (List AV)) (hs : List (List AV)) (sp : Int) (tl : Int) (th : Int) (ms : List (List AV)) (b_1 : Bool) (n_1 : Int) : Ex × St := q46a_0 os hs sp tl th ms b_1 n_1
def e46a (os : List (List AV)) (hs : List (List AV)) (sp : Int) (tl : Int) (th : Int) (ms : List (List AV)) (b_1 : Bool) (k : Nat) : Bool := ex46a os hs sp tl th ms b_1 ((k : Nat) : Int)
def d46a (os : List (List AV)) (hs : List (List AV)) (sp : Int) (tl : Int) (th : Int) (ms : List (List AV)) (b_1 : Bool) (k : Nat) : Bool := df46a os hs sp tl th ms b_1 ((k : Nat) : Int)
noncomputable def st46a (os : List (List AV)) (hs : List (List AV)) (sp : Int) (tl : Int) (th : Int) (ms : List (List AV)) (b_1 : Bool) (k : Nat) : St := s46a os hs sp tl th ms b_1 ((k : Nat) : Int)
noncomputable def ou46a (os : List (List AV)) (hs : List (List AV)) (sp : Int) (tl : Int) (th : Int) (ms : List (List AV)) (b_1 : Bool) (k : Nat) : Ex × St := q46a os hs sp tl th ms b_1 ((k : Nat) : Int)
def N46a (os : List (List AV)) (hs : List (List AV)) (sp : Int) (tl : Int) (th : Int) (ms : List (List AV)) (b_1 : Bool) : Nat := ((↑ms.length : Int) : Int).toNat
def g46a (os : List (List AV)) (hs : List (List AV)) (sp : Int) (tl : Int) (th : Int) (ms : List (List AV)) (b_1 : Bool) : Bool := decide (((↑ms.length : Int) : Int) ≤ 9223372036854775807) && allN (d46a os hs sp tl th ms b_1) (N46a os hs sp tl th ms b_1)
noncomputable def l46a (st : St) : Option (List (Bool × Ex × St)) := match normV Try.prog [1, 2, 3] 0 st with
  | some ([.rp [.sl 32, .sl 71, .int .i64, .int .i64, .int .i64, .sl 46] [.rs 32 os, .rs 71 hs, .i .i64 sp, .i .i64 tl, .i .i64 th, .rs 46 ms] 0, .b b_1, .i .i64 (.ofNat 0)], [], 63) => some [(g46a os hs sp tl th ms b_1 && anyN (e46a os hs sp tl th ms b_1) (N46a os hs sp tl th ms b_1), .ret, (q46a_0 os hs sp tl th ms b_1 (((firstN (e46a os hs sp tl th ms b_1) (N46a os hs sp tl th ms b_1)) : Nat) : Int)).2), (g46a os hs sp tl th ms b_1, .ext 0, st46a os hs sp tl th ms b_1 (N46a os hs sp tl th ms b_1))]
  | _ => none
noncomputable def L46 : LSpec := fun p st => match p with
  | [false, true, true, true, false, false, true, false, false, true, false, true] => l46aa st
  | [false, true, false, true] => l46a st
  | _ => none
noncomputable def tr46aa (os : List (List AV)) (hs : List (List AV)) (sp : Int) (tl : Int) (th : Int) (ms : List (List AV)) (b_1 : Bool) (n_1 : Int) (n_2 : Int) (n_3 : Int) (n_4 : Int) (n_5 : Int) (n_6 : Int) : Option (Ex × St) := cond (inb n_2 ms.length) (cond (decide (n_5 > IntKind.i64.wrap (c3 (ms.getD n_2.toNat []) + IntKind.i64.wrap (sp * farI n_3 n_4 (cU (ms.getD n_2.toNat [])) (cV (ms.getD n_2.toNat [])))))) (some (.ret, s46aa os hs sp tl th ms false n_1 n_2 n_3 n_4 n_5 n_6)) (some (.nrm, s46aa os hs sp tl th ms b_1 n_1 (IntKind.i64.wrap (n_2 + 1)) n_3 n_4 n_5 n_6))) (none)
theorem round46aa (os : List (List AV)) (hs : List (List AV)) (sp : Int) (tl : Int) (th : Int) (ms : List (List AV)) (b_1 : Bool) (n_1 : Int) (n_2 : Int) (n_3 : Int) (n_4 : Int) (n_5 : Int) (n_6 : Int) : round Try.prog Si (ro 46) L46 lp46aa [false, true, true, true, false, false, true, false, false, true, false, true] [1, 2, 3, 4, 5] 11 (s46aa os hs sp tl th ms b_1 n_1 n_2 n_3 n_4 n_5 n_6) =
    cond (decide (n_2 < (↑ms.length : Int))) (tr46aa os hs sp tl th ms b_1 n_1 n_2 n_3 n_4 n_5 n_6) (some (.ext 2, s46aa os hs sp tl th ms b_1 n_1 n_2 n_3 n_4 n_5 n_6)) := by kernel_rfl
theorem step46aa (os : List (List AV)) (hs : List (List AV)) (sp : Int) (tl : Int) (th : Int) (ms : List (List AV)) (b_1 : Bool) (n_1 : Int) (n_2 : Int) (n_3 : Int) (n_4 : Int) (n_5 : Int) (n_6 : Int) (hd : df46aa os hs sp tl th ms b_1 n_1 n_2 n_3 n_4 n_5 n_6 = true) : tr46aa os hs sp tl th ms b_1 n_1 n_2 n_3 n_4 n_5 n_6 = cond (ex46aa os hs sp tl th ms b_1 n_1 n_2 n_3 n_4 n_5 n_6) (some (q46aa os hs sp tl th ms b_1 n_1 n_2 n_3 n_4 n_5 n_6)) (some (.nrm, s46aa os hs sp tl th ms b_1 n_1 (IntKind.i64.wrap (n_2 + 1)) n_3 n_4 n_5 n_6)) := by
  unfold df46aa at hd
  unfold ex46aa q46aa q46aa_0 tr46aa
  generalize (inb n_2 ms.length) = t0 at *
  generalize (decide (n_5 > IntKind.i64.wrap (c3 (ms.getD n_2.toNat []) + IntKind.i64.wrap (sp * farI n_3 n_4 (cU (ms.getD n_2.toNat [])) (cV (ms.getD n_2.toNat [])))))) = t1 at *
  cases t0 <;> cases t1 <;> first | rfl | (cases hd)
theorem lok46aa {st : St} {outs : List (Bool × Ex × St)} {e : Ex} {s : St} {lo : Nat} (hlo : lo ≤ st.nx) (hl : l46aa st = some outs) (hch : Chosen outs e s) (hz : lo = 0) :
    ∃ keep nb, lo ≤ nb ∧ LB Try.prog Si (ro 46) L46 lp46aa [false, true, true, true, false, false, true, false, false, true, false, true] keep nb st e s := by
  unfold l46aa at hl
  split at hl
  · rename_i os hs sp tl th ms b_1 n_1 n_3 n_4 n_5 n_6 hno
    cases hl
    have hno := normV_norm hno
    refine LB_forG (n := (N46aa os hs sp tl th ms b_1 n_1 n_3 n_4 n_5 n_6)) (g := g46aa os hs sp tl th ms b_1 n_1 n_3 n_4 n_5 n_6) (stI := fun k => st46aa os hs sp tl th ms b_1 n_1 n_3 n_4 n_5 n_6 k) (ex := e46aa os hs sp tl th ms b_1 n_1 n_3 n_4 n_5 n_6) (out := (fun k => ou46aa os hs sp tl th ms b_1 n_1 n_3 n_4 n_5 n_6 k)) (fin := (.ext 2, st46aa os hs sp tl th ms b_1 n_1 n_3 n_4 n_5 n_6 (N46aa os hs sp tl th ms b_1 n_1 n_3 n_4 n_5 n_6))) hno (Nat.le_trans (Nat.le_of_eq hz) (Nat.zero_le _)) hch (fun k => by simp [ou46aa, q46aa, q46aa_0]) (by simp) (fun hg => ?_)
    obtain ⟨hb, hall⟩ := Bool.and_eq_true_iff.1 hg
    have hb := of_decide_eq_true hb
    refine ⟨fun k hk => ?_, ?_⟩
    · have h1 := lt_toNat hk
      have hd := allN_at hall k hk
      have hw := wrap_succ h1 hb
      show round _ _ _ _ _ _ _ _ (s46aa os hs sp tl th ms b_1 n_1 ((k : Nat) : Int) n_3 n_4 n_5 n_6) = _
      rw [round46aa, show decide _ = true from decide_eq_true h1, cond_true, step46aa _ _ _ _ _ _ _ _ _ _ _ _ _ hd, hw]
      rfl
    · show round _ _ _ _ _ _ _ _ (s46aa os hs sp tl th ms b_1 n_1 (((N46aa os hs sp tl th ms b_1 n_1 n_3 n_4 n_5 n_6) : Nat) : Int) n_3 n_4 n_5 n_6) = _
      rw [round46aa, show decide ((((N46aa os hs sp tl th ms b_1 n_1 n_3 n_4 n_5 n_6) : Nat) : Int) < ((↑ms.length : Int) : Int)) = false from not_lt_toNat]
      rfl
  · cases hl
noncomputable def tr46a (os : List (List AV)) (hs : List (List AV)) (sp : Int) (tl : Int) (th : Int) (ms : List (List AV)) (b_1 : Bool) (n_1 : Int) : Option (Ex × St) := cond (inb n_1 ms.length) (cond (decide (c2 (ms.getD n_1.toNat []) > th)) (some (.ret, s46a os hs sp tl th ms false n_1)) (cond (decide (c3 (ms.getD n_1.toNat []) < tl)) (some (.ret, s46a os hs sp tl th ms false n_1)) (cond (g46aa os hs sp tl th ms b_1 n_1 (cU (ms.getD n_1.toNat [])) (cV (ms.getD n_1.toNat [])) (c2 (ms.getD n_1.toNat [])) (c3 (ms.getD n_1.toNat [])) && anyN (e46aa os hs sp tl th ms b_1 n_1 (cU (ms.getD n_1.toNat [])) (cV (ms.getD n_1.toNat [])) (c2 (ms.getD n_1.toNat [])) (c3 (ms.getD n_1.toNat []))) (N46aa os hs sp tl th ms b_1 n_1 (cU (ms.getD n_1.toNat [])) (cV (ms.getD n_1.toNat [])) (c2 (ms.getD n_1.toNat [])) (c3 (ms.getD n_1.toNat [])))) (some (.ret, s46a os hs sp tl th ms false n_1)) (cond (g46aa os hs sp tl th ms b_1 n_1 (cU (ms.getD n_1.toNat [])) (cV (ms.getD n_1.toNat [])) (c2 (ms.getD n_1.toNat [])) (c3 (ms.getD n_1.toNat []))) (some (.nrm, s46a os hs sp tl th ms b_1 (IntKind.i64.wrap (n_1 + 1)))) (none))))) (none)
theorem round46a (os : List (List AV)) (hs : List (List AV)) (sp : Int) (tl : Int) (th : Int) (ms : List (List AV)) (b_1 : Bool) (n_1 : Int) : round Try.prog Si (ro 46) L46 lp46a [false, true, false, true] [1, 2, 3] 0 (s46a os hs sp tl th ms b_1 n_1) =
    cond (decide (n_1 < (↑ms.length : Int))) (tr46a os hs sp tl th ms b_1 n_1) (some (.ext 0, s46a os hs sp tl th ms b_1 n_1)) := by kernel_rfl
theorem step46a (os : List (List AV)) (hs : List (List AV)) (sp : Int) (tl : Int) (th : Int) (ms : List (List AV)) (b_1 : Bool) (n_1 : Int) (hd : df46a os hs sp tl th ms b_1 n_1 = true) : tr46a os hs sp tl th ms b_1 n_1 = cond (ex46a os hs sp tl th ms b_1 n_1) (some (q46a os hs sp tl th ms b_1 n_1)) (some (.nrm, s46a os hs sp tl th ms b_1 (IntKind.i64.wrap (n_1 + 1)))) := by
  unfold df46a at hd
  unfold ex46a q46a q46a_0 tr46a
  generalize (inb n_1 ms.length) = t0 at *
  generalize (decide (c2 (ms.getD n_1.toNat []) > th)) = t1 at *
  generalize (decide (c3 (ms.getD n_1.toNat []) < tl)) = t2 at *
  generalize (g46aa os hs sp tl th ms b_1 n_1 (cU (ms.getD n_1.toNat [])) (cV (ms.getD n_1.toNat [])) (c2 (ms.getD n_1.toNat [])) (c3 (ms.getD n_1.toNat [])) && anyN (e46aa os hs sp tl th ms b_1 n_1 (cU (ms.getD n_1.toNat [])) (cV (ms.getD n_1.toNat [])) (c2 (ms.getD n_1.toNat [])) (c3 (ms.getD n_1.toNat []))) (N46aa os hs sp tl th ms b_1 n_1 (cU (ms.getD n_1.toNat [])) (cV (ms.getD n_1.toNat [])) (c2 (ms.getD n_1.toNat [])) (c3 (ms.getD n_1.toNat [])))) = t3 at *
  generalize (g46aa os hs sp tl th ms b_1 n_1 (cU (ms.getD n_1.toNat [])) (cV (ms.getD n_1.toNat [])) (c2 (ms.getD n_1.toNat [])) (c3 (ms.getD n_1.toNat []))) = t4 at *
  cases t0 <;> cases t1 <;> cases t2 <;> cases t3 <;> cases t4 <;> first | rfl | (cases hd)
theorem lok46a {st : St} {outs : List (Bool × Ex × St)} {e : Ex} {s : St} {lo : Nat} (hlo : lo ≤ st.nx) (hl : l46a st = some outs) (hch : Chosen outs e s) (hz : lo = 0) :
    ∃ keep nb, lo ≤ nb ∧ LB Try.prog Si (ro 46) L46 lp46a [false, true, false, true] keep nb st e s := by
  unfold l46a at hl
  split at hl
  · rename_i os hs sp tl th ms b_1 hno
    cases hl
    have hno := normV_norm hno
    refine LB_forG (n := (N46a os hs sp tl th ms b_1)) (g := g46a os hs sp tl th ms b_1) (stI := fun k => st46a os hs sp tl th ms b_1 k) (ex := e46a os hs sp tl th ms b_1) (out := (fun k => ou46a os hs sp tl th ms b_1 k)) (fin := (.ext 0, st46a os hs sp tl th ms b_1 (N46a os hs sp tl th ms b_1))) hno (Nat.le_trans (Nat.le_of_eq hz) (Nat.zero_le _)) hch (fun k => by simp [ou46a, q46a, q46a_0]) (by simp) (fun hg => ?_)
    obtain ⟨hb, hall⟩ := Bool.and_eq_true_iff.1 hg
    have hb := of_decide_eq_true hb
    refine ⟨fun k hk => ?_, ?_⟩
    · have h1 := lt_toNat hk
      have hd := allN_at hall k hk
      have hw := wrap_succ h1 hb
      show round _ _ _ _ _ _ _ _ (s46a os hs sp tl th ms b_1 ((k : Nat) : Int)) = _
      rw [round46a, show decide _ = true from decide_eq_true h1, cond_true, step46a _ _ _ _ _ _ _ _ hd, hw]
      rfl
    · show round _ _ _ _ _ _ _ _ (s46a os hs sp tl th ms b_1 (((N46a os hs sp tl th ms b_1) : Nat) : Int)) = _
      rw [round46a, show decide ((((N46a os hs sp tl th ms b_1) : Nat) : Int) < ((↑ms.length : Int) : Int)) = false from not_lt_toNat]
      rfl
  · cases hl
theorem L46_ok (q : Pl) (c : Code) (hq : locate c46 q.reverse = some (.loop c)) (st : St) (outs : List (Bool × Ex × St)) (e : Ex) (s : St) (hl : L46 q st = some outs) (hch : Chosen outs e s) :
    ∃ keep nb, LB Try.prog Si (ro 46) L46 c q keep nb st e s := by
  unfold L46 at hl
  split at hl
  · have : locate c46 ([false, true, true, true, false, false, true, false, false, true, false, true] : Pl).reverse = some (.loop lp46aa) := by kernel_rfl
    rw [this] at hq
    cases hq
    obtain ⟨keep, nb, _, h⟩ := lok46aa (lo := 0) (Nat.zero_le _) hl hch rfl
    exact ⟨keep, nb, h⟩
  · have : locate c46 ([false, true, false, true] : Pl).reverse = some (.loop lp46a) := by kernel_rfl
    rw [this] at hq
    cases hq
    obtain ⟨keep, nb, _, h⟩ := lok46a (lo := 0) (Nat.zero_le _) hl hch rfl
    exact ⟨keep, nb, h⟩
  · cases hl
theorem eq46 (os hs ms : List (List AV)) (sp tl th : Int) : evF Try.prog Si (ro 46) L46 Try.f46 [.agg [.rs 32 os, .rs 71 hs, .i .i64 sp, .i .i64 tl, .i .i64 th, .rs 46 ms]] =
    cond (g46a os hs sp tl th ms false && anyN (e46a os hs sp tl th ms false) (N46a os hs sp tl th ms false)) (some (.b false)) (cond (g46a os hs sp tl th ms false) (some (.b true)) (none)) := by kernel_rfl
end Go.Proofs.Yteclfchlejocmaa

set_option maxRecDepth 100000
set_option linter.unusedVariables false
namespace Go.Proofs.Yteclfchlejocmaa
open Go Go.Ev

/-! ### thatchref07.outline -/
noncomputable def c42 : Code := match Try.f42.body with | some c => c | _ => .skip
noncomputable def s42a (es : List (List AV)) (n_1 : Int) (n_2 : Int) (n_3 : Int) : St :=
  { t := [(0, .rs 32 es), (2, .i .i64 n_1), (3, .i .i64 n_2), (4, .i .i64 n_3)], m := [], nx := 0, nt := 135 }
noncomputable def lp42a : Code := loopAt c42 [true, true, true, false, true, false]
def ex42a (es : List (List AV)) (n_1 : Int) (n_2 : Int) (n_3 : Int) : Bool := (!inB (cU (es.getD n_3.toNat [])) 0 400) || (!inB (cV (es.getD n_3.toNat [])) 0 400)
def df42a (es : List (List AV)) (n_1 : Int) (n_2 : Int) (n_3 : Int) : Bool := (inb n_3 es.length) && ((!inB (cU (es.getD n_3.toNat [])) 0 400) || (inb n_3 es.length))
noncomputable def q42a_0 (es : List (List AV)) (n_1 : Int) (n_2 : Int) (n_3 : Int) : Ex × St := (.ret, s42a es 1 n_2 n_3)
noncomputable def q42a (es : List (List AV)) (n_1 : Int) (n_2 : Int) (n_3 : Int) : Ex × St := q42a_0 es n_1 n_2 n_3
def e42a (es : List (List AV)) (n_1 : Int) (n_2 : Int) (k : Nat) : Bool := ex42a es n_1 n_2 ((k : Nat) : Int)
def d42a (es : List (List AV)) (n_1 : Int) (n_2 : Int) (k : Nat) : Bool := df42a es n_1 n_2 ((k : Nat) : Int)
noncomputable def st42a (es : List (List AV)) (n_1 : Int) (n_2 : Int) (k : Nat) : St := s42a es n_1 n_2 ((k : Nat) : Int)
noncomputable def ou42a (es : List (List AV)) (n_1 : Int) (n_2 : Int) (k : Nat) : Ex × St := q42a es n_1 n_2 ((k : Nat) : Int)
def N42a (es : List (List AV)) (n_1 : Int) (n_2 : Int) : Nat := n_2.toNat
def g42a (es : List (List AV)) (n_1 : Int) (n_2 : Int) : Bool := decide ((n_2 : Int) ≤ 9223372036854775807) && allN (d42a es n_1 n_2) (N42a es n_1 n_2)
noncomputable def l42a (st : St) : Option (List (Bool × Ex × St)) := match normV Try.prog [0, 2, 3, 4] 0 st with
  | some ([.rs 32 es, .i .i64 n_1, .i .i64 n_2, .i .i64 (.ofNat 0)], [], 135) => some [(g42a es n_1 n_2 && anyN (e42a es n_1 n_2) (N42a es n_1 n_2), .ret, (q42a_0 es n_1 n_2 (((firstN (e42a es n_1 n_2) (N42a es n_1 n_2)) : Nat) : Int)).2), (g42a es n_1 n_2, .ext 0, st42a es n_1 n_2 (N42a es n_1 n_2))]
  | _ => none
noncomputable def s42b (es : List (List AV)) (n_1 : Int) (n_2 : Int) (n_3 : Int) : St :=
  { t := [(0, .rs 32 es), (2, .i .i64 n_1), (3, .i .i64 n_2), (5, .i .i64 n_3)], m := [], nx := 0, nt := 135 }
noncomputable def lp42b : Code := loopAt c42 [true, true, true, true, false, true, false]
noncomputable def s42ba (es : List (List AV)) (n_1 : Int) (n_2 : Int) (n_3 : Int) (n_4 : Int) : St :=
  { t := [(0, .rs 32 es), (2, .i .i64 n_1), (3, .i .i64 n_2), (5, .i .i64 n_3), (6, .i .i64 n_4)], m := [], nx := 0, nt := 135 }
noncomputable def lp42ba : Code := loopAt c42 [true, true, true, true, false, true, false, false, true, false, false, true, false]
def ex42ba (es : List (List AV)) (n_1 : Int) (n_2 : Int) (n_3 : Int) (n_4 : Int) : Bool := cU (es.getD n_3.toNat []) == cU (es.getD n_4.toNat []) && cV (es.getD n_3.toNat []) == cV (es.getD n_4.toNat [])
def df42ba (es : List (List AV)) (n_1 : Int) (n_2 : Int) (n_3 : Int) (n_4 : Int) : Bool := (inb n_3 es.length) && (inb n_4 es.length)
noncomputable def q42ba_0 (es : List (List AV)) (n_1 : Int) (n_2 : Int) (n_3 : Int) (n_4 : Int) : Ex × St := (.ret, s42ba es 6 n_2 n_3 n_4)
noncomputable def q42ba (es : List (List AV)) (n_1 : Int) (n_2 : Int) (n_3 : Int) (n_4 : Int) : Ex × St := q42ba_0 es n_1 n_2 n_3 n_4
def e42ba (es : List (List AV)) (n_1 : Int) (n_2 : Int) (n_3 : Int) (k : Nat) : Bool := ex42ba es n_1 n_2 n_3 ((k : Nat) : Int)
def d42ba (es : List (List AV)) (n_1 : Int) (n_2 : Int) (n_3 : Int) (k : Nat) : Bool := df42ba es n_1 n_2 n_3 ((k : Nat) : Int)
noncomputable def st42ba (es : List (List AV)) (n_1 : Int) (n_2 : Int) (n_3 : Int) (k : Nat) : St := s42ba es n_1 n_2 n_3 ((k : Nat) : Int)
noncomputable def ou42ba (es : List (List AV)) (n_1 : Int) (n_2 : Int) (n_3 : Int) (k : Nat) : Ex × St := q42ba es n_1 n_2 n_3 ((k : Nat) : Int)
def N42ba (es : List (List AV)) (n_1 : Int) (n_2 : Int) (n_3 : Int) : Nat := n_3.toNat
def g42ba (es : List (List AV)) (n_1 : Int) (n_2 : Int) (n_3 : Int) : Bool := decide ((n_3 : Int) ≤ 9223372036854775807) && allN (d42ba es n_1 n_2 n_3) (N42ba es n_1 n_2 n_3)
noncomputable def l42ba (st : St) : Option (List (Bool × Ex × St)) := match normV Try.prog [0, 2, 3, 5, 6] 0 st with
  | some ([.rs 32 es, .i .i64 n_1, .i .i64 n_2, .i .i64 n_3, .i .i64 (.ofNat 0)], [], 135) => some [(g42ba es n_1 n_2 n_3 && anyN (e42ba es n_1 n_2 n_3) (N42ba es n_1 n_2 n_3), .ret, (q42ba_0 es n_1 n_2 n_3 (((firstN (e42ba es n_1 n_2 n_3) (N42ba es n_1 n_2 n_3)) : Nat) : Int)).2), (g42ba es n_1 n_2 n_3, .ext 4, st42ba es n_1 n_2 n_3 (N42ba es n_1 n_2 n_3))]
  | _ => none
def ex42b (es : List (List AV)) (n_1 : Int) (n_2 : Int) (n_3 : Int) : Bool := g42ba es n_1 n_2 n_3 && anyN (e42ba es n_1 n_2 n_3) (N42ba es n_1 n_2 n_3)
def df42b (es : List (List AV)) (n_1 : Int) (n_2 : Int) (n_3 : Int) : Bool := (g42ba es n_1 n_2 n_3 && anyN (e42ba es n_1 n_2 n_3) (N42ba es n_1 n_2 n_3)) || (g42ba es n_1 n_2 n_3)
noncomputable def q42b_0 (es : List (List AV)) (n_1 : Int) (n_2 : Int) (n_3 : Int) : Ex × St := (.ret, s42b es 6 n_2 n_3)
noncomputable def q42b (es : List (List AV)) (n_1 : Int) (n_2 : Int) (n_3 : Int) : Ex × St := q42b_0 es n_1 n_2 n_3
def e42b (es : List (List AV)) (n_1 : Int) (n_2 : Int) (k : Nat) : Bool := ex42b es n_1 n_2 ((k : Nat) : Int)
def d42b (es : List (List AV)) (n_1 : Int) (n_2 : Int) (k : Nat) : Bool := df42b es n_1 n_2 ((k : Nat) : Int)
noncomputable def st42b (es : List (List AV)) (n_1 : Int) (n_2 : Int) (k : Nat) : St := s42b es n_1 n_2 ((k : Nat) : Int)
noncomputable def ou42b (es : List (List AV)) (n_1 : Int) (n_2 : Int) (k : Nat) : Ex × St := q42b es n_1 n_2 ((k : Nat) : Int)
def N42b (es : List (List AV)) (n_1 : Int) (n_2 : Int) : Nat := n_2.toNat
def g42b (es : List (List AV)) (n_1 : Int) (n_2 : Int) : Bool := decide ((n_2 : Int) ≤ 9223372036854775807) && allN (d42b es n_1 n_2) (N42b es n_1 n_2)
noncomputable def l42b (st : St) : Option (List (Bool × Ex × St)) := match normV Try.prog [0, 2, 3, 5] 0 st with
  | some ([.rs 32 es, .i .i64 n_1, .i .i64 n_2, .i .i64 (.ofNat 0)], [], 135) => some [(g42b es n_1 n_2 && anyN (e42b es n_1 n_2) (N42b es n_1 n_2), .ret, (q42b_0 es n_1 n_2 (((firstN (e42b es n_1 n_2) (N42b es n_1 n_2)) : Nat) : Int)).2), (g42b es n_1 n_2, .ext 2, st42b es n_1 n_2 (N42b es n_1 n_2))]
  | _ => none
noncomputable def s42c (es : List (List AV)) (n_1 : Int) (n_2 : Int) (n_3 : Int) (n_4 : Int) : St :=
  { t := [(0, .rs 32 es), (2, .i .i64 n_1), (3, .i .i64 n_2), (7, .i .i64 n_3), (8, .i .i64 n_4)], m := [], nx := 0, nt := 135 }
noncomputable def lp42c : Code := loopAt c42 [true, true, true, true, true, true, false, true, false]
noncomputable def s42ca (es : List (List AV)) (n_1 : Int) (n_2 : Int) (n_3 : Int) (n_4 : Int) (n_5 : Int) (n_6 : Int) (n_7 : Int) (n_8 : Int) (n_9 : Int) (n_10 : Int) (n_11 : Int) : St :=
  { t := [(0, .rs 32 es), (2, .i .i64 n_1), (3, .i .i64 n_2), (7, .i .i64 n_3), (8, .i .i64 n_4), (9, .p 21 0 0), (10, .p 22 0 0), (11, .p 23 0 0), (12, .i .i64 n_5)], m := [(0, .dead), (1, .dead), (2, .dead), (3, .dead), (4, .dead), (5, .dead), (6, .dead), (7, .dead), (8, .dead), (9, .dead), (10, .dead), (11, .dead), (12, .dead), (13, .dead), (14, .dead), (15, .dead), (16, .dead), (17, .dead), (18, .dead), (19, .dead), (20, .dead), (21, .row 32 [[.i .i64 n_6, .i .i64 n_7]]), (22, .row 32 [[.i .i64 n_8, .i .i64 n_9]]), (23, .row 32 [[.i .i64 n_10, .i .i64 n_11]])], nx := 24, nt := 135 }
noncomputable def lp42ca : Code := loopAt c42 [true, true, true, true, true, true, false, true, false, false, true, false, false, true, false, true, false]
def ex42ca (es : List (List AV)) (n_1 : Int) (n_2 : Int) (n_3 : Int) (n_4 : Int) (n_5 : Int) (n_6 : Int) (n_7 : Int) (n_8 : Int) (n_9 : Int) (n_10 : Int) (n_11 : Int) : Bool := decide (leftI n_6 n_7 n_8 n_9 (cU (es.getD n_5.toNat [])) (cV (es.getD n_5.toNat [])) < 0)
def df42ca (es : List (List AV)) (n_1 : Int) (n_2 : Int) (n_3 : Int) (n_4 : Int) (n_5 : Int) (n_6 : Int) (n_7 : Int) (n_8 : Int) (n_9 : Int) (n_10 : Int) (n_11 : Int) : Bool := inb n_5 es.length
noncomputable def q42ca_0 (es : List (List AV)) (n_1 : Int) (n_2 : Int) (n_3 : Int) (n_4 : Int) (n_5 : Int) (n_6 : Int) (n_7 : Int) (n_8 : Int) (n_9 : Int) (n_10 : Int) (n_11 : Int) : Ex × St := (.ret, s42ca es 9 n_2 n_3 n_4 n_5 n_6 n_7 n_8 n_9 n_10 n_11)
noncomputable def q42ca (es : List (List AV)) (n_1 : Int) (n_2 : Int) (n_3 : Int) (n_4 : Int) (n_5 : Int) (n_6 : Int) (n_7 : Int) (n_8 : Int) (n_9 : Int) (n_10 : Int) (n_11 : Int) : Ex × St := q42ca_0 es n_1 n_2 n_3 n_4 n_5 n_6 n_7 n_8 n_9 n_10 n_11
def e42ca (es : List (List AV)) (n_1 : Int) (n_2 : Int) (n_3 : Int) (n_4 : Int) (n_6 : Int) (n_7 : Int) (n_8 : Int) (n_9 : Int) (n_10 : Int) (n_11 : Int) (k : Nat) : Bool := ex42ca es n_1 n_2 n_3 n_4 ((k : Nat) : Int) n_6 n_7 n_8 n_9 n_10 n_11
def d42ca (es : List (List AV)) (n_1 : Int) (n_2 : Int) (n_3 : Int) (n_4 : Int) (n_6 : Int) (n_7 : Int) (n_8 : Int) (n_9 : Int) (n_10 : Int) (n_11 : Int) (k : Nat) : Bool := df42ca es n_1 n_2 n_3 n_4 ((k : Nat) : Int) n_6 n_7 n_8 n_9 n_10 n_11
noncomputable def st42ca (es : List (List AV)) (n_1 : Int) (n_2 : Int) (n_3 : Int) (n_4 : Int) (n_6 : Int) (n_7 : Int) (n_8 : Int) (n_9 : Int) (n_10 : Int) (n_11 : Int) (k : Nat) : St := s42ca es n_1 n_2 n_3 n_4 ((k : Nat) : Int) n_6 n_7 n_8 n_9 n_10 n_11
noncomputable def ou42ca (es : List (List AV)) (n_1 : Int) (n_2 : Int) (n_3 : Int) (n_4 : Int) (n_6 : Int) (n_7 : Int) (n_8 : Int) (n_9 : Int) (n_10 : Int) (n_11 : Int) (k : Nat) : Ex × St := q42ca es n_1 n_2 n_3 n_4 ((k : Nat) : Int) n_6 n_7 n_8 n_9 n_10 n_11
def N42ca (es : List (List AV)) (n_1 : Int) (n_2 : Int) (n_3 : Int) (n_4 : Int) (n_6 : Int) (n_7 : Int) (n_8 : Int) (n_9 : Int) (n_10 : Int) (n_11 : Int) : Nat := n_2.toNat
def g42ca (es : List (List AV)) (n_1 : Int) (n_2 : Int) (n_3 : Int) (n_4 : Int) (n_6 : Int) (n_7 : Int) (n_8 : Int) (n_9 : Int) (n_10 : Int) (n_11 : Int) : Bool := decide ((n_2 : Int) ≤ 9223372036854775807) && allN (d42ca es n_1 n_2 n_3 n_4 n_6 n_7 n_8 n_9 n_10 n_11) (N42ca es n_1 n_2 n_3 n_4 n_6 n_7 n_8 n_9 n_10 n_11)
noncomputable def l42ca (st : St) : Option (List (Bool × Ex × St)) := match normV Try.prog [0, 2, 3, 7, 8, 9, 10, 11, 12] 24 st with
  | some ([.rs 32 es, .i .i64 n_1, .i .i64 n_2, .i .i64 n_3, .i .i64 n_4, .p 21 0 0, .p 22 0 0, .p 23 0 0, .i .i64 (.ofNat 0)], [.dead, .dead, .dead, .dead, .dead, .dead, .dead, .dead, .dead, .dead, .dead, .dead, .dead, .dead, .dead, .dead, .dead, .dead, .dead, .dead, .dead, .row 32 [[.i .i64 n_6, .i .i64 n_7]], .row 32 [[.i .i64 n_8, .i .i64 n_9]], .row 32 [[.i .i64 n_10, .i .i64 n_11]]], 135) => some [(g42ca es n_1 n_2 n_3 n_4 n_6 n_7 n_8 n_9 n_10 n_11 && anyN (e42ca es n_1 n_2 n_3 n_4 n_6 n_7 n_8 n_9 n_10 n_11) (N42ca es n_1 n_2 n_3 n_4 n_6 n_7 n_8 n_9 n_10 n_11), .ret, (q42ca_0 es n_1 n_2 n_3 n_4 (((firstN (e42ca es n_1 n_2 n_3 n_4 n_6 n_7 n_8 n_9 n_10 n_11) (N42ca es n_1 n_2 n_3 n_4 n_6 n_7 n_8 n_9 n_10 n_11)) : Nat) : Int) n_6 n_7 n_8 n_9 n_10 n_11).2), (g42ca es n_1 n_2 n_3 n_4 n_6 n_7 n_8 n_9 n_10 n_11, .ext 8, st42ca es n_1 n_2 n_3 n_4 n_6 n_7 n_8 n_9 n_10 n_11 (N42ca es n_1 n_2 n_3 n_4 n_6 n_7 n_8 n_9 n_10 n_11))]
  | _ => none
def ex42c (es : List (List AV)) (n_1 : Int) (n_2 : Int) (n_3 : Int) (n_4 : Int) : Bool := (g42ca es n_1 n_2 n_3 n_4 (cU (es.getD n_4.toNat [])) (cV (es.getD n_4.toNat [])) (cU (es.getD ((IntKind.i64.wrap (n_4 + 1)).tmod n_2).toNat [])) (cV (es.getD ((IntKind.i64.wrap (n_4 + 1)).tmod n_2).toNat [])) (cU (es.getD ((IntKind.i64.wrap (n_4 + 2)).tmod n_2).toNat [])) (cV (es.getD ((IntKind.i64.wrap (n_4 + 2)).tmod n_2).toNat [])) && anyN (e42ca es n_1 n_2 n_3 n_4 (cU (es.getD n_4.toNat [])) (cV (es.getD n_4.toNat [])) (cU (es.getD ((IntKind.i64.wrap (n_4 + 1)).tmod n_2).toNat [])) (cV (es.getD ((IntKind.i64.wrap (n_4 + 1)).tmod n_2).toNat [])) (cU (es.getD ((IntKind.i64.wrap (n_4 + 2)).tmod n_2).toNat [])) (cV (es.getD ((IntKind.i64.wrap (n_4 + 2)).tmod n_2).toNat []))) (N42ca es n_1 n_2 n_3 n_4 (cU (es.getD n_4.toNat [])) (cV (es.getD n_4.toNat [])) (cU (es.getD ((IntKind.i64.wrap (n_4 + 1)).tmod n_2).toNat [])) (cV (es.getD ((IntKind.i64.wrap (n_4 + 1)).tmod n_2).toNat [])) (cU (es.getD ((IntKind.i64.wrap (n_4 + 2)).tmod n_2).toNat [])) (cV (es.getD ((IntKind.i64.wrap (n_4 + 2)).tmod n_2).toNat [])))) || ((leftI (cU (es.getD n_4.toNat [])) (cV (es.getD n_4.toNat [])) (cU (es.getD ((IntKind.i64.wrap (n_4 + 1)).tmod n_2).toNat [])) (cV (es.getD ((IntKind.i64.wrap (n_4 + 1)).tmod n_2).toNat [])) (cU (es.getD ((IntKind.i64.wrap (n_4 + 2)).tmod n_2).toNat [])) (cV (es.getD ((IntKind.i64.wrap (n_4 + 2)).tmod n_2).toNat [])) == 0) && (decide (IntKind.i64.wrap (IntKind.i64.wrap (IntKind.i64.wrap (cU (es.getD ((IntKind.i64.wrap (n_4 + 1)).tmod n_2).toNat []) - cU (es.getD n_4.toNat [])) * IntKind.i64.wrap (cU (es.getD ((IntKind.i64.wrap (n_4 + 2)).tmod n_2).toNat []) - cU (es.getD ((IntKind.i64.wrap (n_4 + 1)).tmod n_2).toNat []))) + IntKind.i64.wrap (IntKind.i64.wrap (cV (es.getD ((IntKind.i64.wrap (n_4 + 1)).tmod n_2).toNat []) - cV (es.getD n_4.toNat [])) * IntKind.i64.wrap (cV (es.getD ((IntKind.i64.wrap (n_4 + 2)).tmod n_2).toNat []) - cV (es.getD ((IntKind.i64.wrap (n_4 + 1)).tmod n_2).toNat [])))) < 0)))
def df42c (es : List (List AV)) (n_1 : Int) (n_2 : Int) (n_3 : Int) (n_4 : Int) : Bool := (inb n_4 es.length) && (!(decide (n_2 = 0)) && ((inb ((IntKind.i64.wrap (n_4 + 1)).tmod n_2) es.length) && (!(decide (n_2 = 0)) && ((inb ((IntKind.i64.wrap (n_4 + 2)).tmod n_2) es.length) && ((g42ca es n_1 n_2 n_3 n_4 (cU (es.getD n_4.toNat [])) (cV (es.getD n_4.toNat [])) (cU (es.getD ((IntKind.i64.wrap (n_4 + 1)).tmod n_2).toNat [])) (cV (es.getD ((IntKind.i64.wrap (n_4 + 1)).tmod n_2).toNat [])) (cU (es.getD ((IntKind.i64.wrap (n_4 + 2)).tmod n_2).toNat [])) (cV (es.getD ((IntKind.i64.wrap (n_4 + 2)).tmod n_2).toNat [])) && anyN (e42ca es n_1 n_2 n_3 n_4 (cU (es.getD n_4.toNat [])) (cV (es.getD n_4.toNat [])) (cU (es.getD ((IntKind.i64.wrap (n_4 + 1)).tmod n_2).toNat [])) (cV (es.getD ((IntKind.i64.wrap (n_4 + 1)).tmod n_2).toNat [])) (cU (es.getD ((IntKind.i64.wrap (n_4 + 2)).tmod n_2).toNat [])) (cV (es.getD ((IntKind.i64.wrap (n_4 + 2)).tmod n_2).toNat []))) (N42ca es n_1 n_2 n_3 n_4 (cU (es.getD n_4.toNat [])) (cV (es.getD n_4.toNat [])) (cU (es.getD ((IntKind.i64.wrap (n_4 + 1)).tmod n_2).toNat [])) (cV (es.getD ((IntKind.i64.wrap (n_4 + 1)).tmod n_2).toNat [])) (cU (es.getD ((IntKind.i64.wrap (n_4 + 2)).tmod n_2).toNat [])) (cV (es.getD ((IntKind.i64.wrap (n_4 + 2)).tmod n_2).toNat [])))) || ((g42ca es n_1 n_2 n_3 n_4 (cU (es.getD n_4.toNat [])) (cV (es.getD n_4.toNat [])) (cU (es.getD ((IntKind.i64.wrap (n_4 + 1)).tmod n_2).toNat [])) (cV (es.getD ((IntKind.i64.wrap (n_4 + 1)).tmod n_2).toNat [])) (cU (es.getD ((IntKind.i64.wrap (n_4 + 2)).tmod n_2).toNat [])) (cV (es.getD ((IntKind.i64.wrap (n_4 + 2)).tmod n_2).toNat []))) && (cond (leftI (cU (es.getD n_4.toNat [])) (cV (es.getD n_4.toNat [])) (cU (es.getD ((IntKind.i64.wrap (n_4 + 1)).tmod n_2).toNat [])) (cV (es.getD ((IntKind.i64.wrap (n_4 + 1)).tmod n_2).toNat [])) (cU (es.getD ((IntKind.i64.wrap (n_4 + 2)).tmod n_2).toNat [])) (cV (es.getD ((IntKind.i64.wrap (n_4 + 2)).tmod n_2).toNat [])) == 0) ((decide (IntKind.i64.wrap (IntKind.i64.wrap (IntKind.i64.wrap (cU (es.getD ((IntKind.i64.wrap (n_4 + 1)).tmod n_2).toNat []) - cU (es.getD n_4.toNat [])) * IntKind.i64.wrap (cU (es.getD ((IntKind.i64.wrap (n_4 + 2)).tmod n_2).toNat []) - cU (es.getD ((IntKind.i64.wrap (n_4 + 1)).tmod n_2).toNat []))) + IntKind.i64.wrap (IntKind.i64.wrap (cV (es.getD ((IntKind.i64.wrap (n_4 + 1)).tmod n_2).toNat []) - cV (es.getD n_4.toNat [])) * IntKind.i64.wrap (cV (es.getD ((IntKind.i64.wrap (n_4 + 2)).tmod n_2).toNat []) - cV (es.getD ((IntKind.i64.wrap (n_4 + 1)).tmod n_2).toNat [])))) < 0)) || (inb 0 es.length)) (inb 0 es.length))))))))
def nx42c_0 (es : List (List AV)) (n_1 : Int) (n_2 : Int) (n_3 : Int) (n_4 : Int) : Int := IntKind.i64.wrap (n_3 + leftI (cU (es.getD (Int.toNat 0) [])) (cV (es.getD (Int.toNat 0) [])) (cU (es.getD n_4.toNat [])) (cV (es.getD n_4.toNat [])) (cU (es.getD ((IntKind.i64.wrap (n_4 + 1)).tmod n_2).toNat [])) (cV (es.getD ((IntKind.i64.wrap (n_4 + 1)).tmod n_2).toNat [])))
noncomputable def q42c_0 (es : List (List AV)) (n_1 : Int) (n_2 : Int) (n_3 : Int) (n_4 : Int) : Ex × St := (.ret, s42c es 9 n_2 n_3 n_4)
noncomputable def q42c (es : List (List AV)) (n_1 : Int) (n_2 : Int) (n_3 : Int) (n_4 : Int) : Ex × St := q42c_0 es n_1 n_2 n_3 n_4
def a42c (es : List (List AV)) (n_1 : Int) (n_2 : Int) (n_3 : Int) : Nat → Int
  | 0 => n_3
  | k + 1 => (nx42c_0 es n_1 n_2 ((a42c es n_1 n_2 n_3 k)) ((k : Nat) : Int))
def e42c (es : List (List AV)) (n_1 : Int) (n_2 : Int) (n_3 : Int) (k : Nat) : Bool := ex42c es n_1 n_2 (a42c es n_1 n_2 n_3 k) ((k : Nat) : Int)
def d42c (es : List (List AV)) (n_1 : Int) (n_2 : Int) (n_3 : Int) (k : Nat) : Bool := df42c es n_1 n_2 (a42c es n_1 n_2 n_3 k) ((k : Nat) : Int)
noncomputable def st42c (es : List (List AV)) (n_1 : Int) (n_2 : Int) (n_3 : Int) (k : Nat) : St := s42c es n_1 n_2 (a42c es n_1 n_2 n_3 k) ((k : Nat) : Int)
noncomputable def ou42c (es : List (List AV)) (n_1 : Int) (n_2 : Int) (n_3 : Int) (k : Nat) : Ex × St := q42c es n_1 n_2 (a42c es n_1 n_2 n_3 k) ((k : Nat) : Int)
def N42c (es : List (List AV)) (n_1 : Int) (n_2 : Int) (n_3 : Int) : Nat := n_2.toNat
def g42c (es : List (List AV)) (n_1 : Int) (n_2 : Int) (n_3 : Int) : Bool := decide ((n_2 : Int) ≤ 9223372036854775807) && allN (d42c es n_1 n_2 n_3) (N42c es n_1 n_2 n_3)
noncomputable def l42c (st : St) : Option (List (Bool × Ex × St)) := match normV Try.prog [0, 2, 3, 7, 8] 0 st with
  | some ([.rs 32 es, .i .i64 n_1, .i .i64 n_2, .i .i64 n_3, .i .i64 (.ofNat 0)], [], 135) => some [(g42c es n_1 n_2 n_3 && anyN (e42c es n_1 n_2 n_3) (N42c es n_1 n_2 n_3), .ret, (q42c_0 es n_1 n_2 (a42c es n_1 n_2 n_3 ((firstN (e42c es n_1 n_2 n_3) (N42c es n_1 n_2 n_3)))) (((firstN (e42c es n_1 n_2 n_3) (N42c es n_1 n_2 n_3)) : Nat) : Int)).2), (g42c es n_1 n_2 n_3, .ext 6, st42c es n_1 n_2 n_3 (N42c es n_1 n_2 n_3))]
  | _ => none
noncomputable def L42 : LSpec := fun p st => match p with
  | [false, true, false, true, true, true] => l42a st
  | [false, true, false, false, true, false, false, true, false, true, true, true, true] => l42ba st
  | [false, true, false, true, true, true, true] => l42b st
  | [false, true, false, true, false, false, true, false, false, true, false, true, true, true, true, true, true] => l42ca st
  | [false, true, false, true, true, true, true, true, true] => l42c st
  | _ => none
noncomputable def tr42a (es : List (List AV)) (n_1 : Int) (n_2 : Int) (n_3 : Int) : Option (Ex × St) := cond (inb n_3 es.length) (cond (!inB (cU (es.getD n_3.toNat [])) 0 400) (some (.ret, s42a es 1 n_2 n_3)) (cond (inb n_3 es.length) (cond (!inB (cV (es.getD n_3.toNat [])) 0 400) (some (.ret, s42a es 1 n_2 n_3)) (some (.nrm, s42a es n_1 n_2 (IntKind.i64.wrap (n_3 + 1))))) (none))) (none)
theorem round42a (es : List (List AV)) (n_1 : Int) (n_2 : Int) (n_3 : Int) : round Try.prog Si (ro 42) L42 lp42a [false, true, false, true, true, true] [0, 2, 3, 4] 0 (s42a es n_1 n_2 n_3) =
    cond (decide (n_3 < n_2)) (tr42a es n_1 n_2 n_3) (some (.ext 0, s42a es n_1 n_2 n_3)) := by kernel_rfl
theorem step42a (es : List (List AV)) (n_1 : Int) (n_2 : Int) (n_3 : Int) (hd : df42a es n_1 n_2 n_3 = true) : tr42a es n_1 n_2 n_3 = cond (ex42a es n_1 n_2 n_3) (some (q42a es n_1 n_2 n_3)) (some (.nrm, s42a es n_1 n_2 (IntKind.i64.wrap (n_3 + 1)))) := by
  unfold df42a at hd
  unfold ex42a q42a q42a_0 tr42a
  generalize (inb n_3 es.length) = t0 at *
  generalize (!inB (cU (es.getD n_3.toNat [])) 0 400) = t1 at *
  generalize (!inB (cV (es.getD n_3.toNat [])) 0 400) = t2 at *
  cases t0 <;> cases t1 <;> cases t2 <;> first | rfl | (cases hd)
theorem lok42a {st : St} {outs : List (Bool × Ex × St)} {e : Ex} {s : St} {lo : Nat} (hlo : lo ≤ st.nx) (hl : l42a st = some outs) (hch : Chosen outs e s) (hz : lo = 0) :
    ∃ keep nb, lo ≤ nb ∧ LB Try.prog Si (ro 42) L42 lp42a [false, true, false, true, true, true] keep nb st e s := by
  unfold l42a at hl
  split at hl
  · rename_i es n_1 n_2 hno
    cases hl
    have hno := normV_norm hno
    refine LB_forG (n := (N42a es n_1 n_2)) (g := g42a es n_1 n_2) (stI := fun k => st42a es n_1 n_2 k) (ex := e42a es n_1 n_2) (out := (fun k => ou42a es n_1 n_2 k)) (fin := (.ext 0, st42a es n_1 n_2 (N42a es n_1 n_2))) hno (Nat.le_trans (Nat.le_of_eq hz) (Nat.zero_le _)) hch (fun k => by simp [ou42a, q42a, q42a_0]) (by simp) (fun hg => ?_)
    obtain ⟨hb, hall⟩ := Bool.and_eq_true_iff.1 hg
    have hb := of_decide_eq_true hb
    refine ⟨fun k hk => ?_, ?_⟩
    · have h1 := lt_toNat hk
      have hd := allN_at hall k hk
      have hw := wrap_succ h1 hb
      show round _ _ _ _ _ _ _ _ (s42a es n_1 n_2 ((k : Nat) : Int)) = _
      rw [round42a, show decide _ = true from decide_eq_true h1, cond_true, step42a _ _ _ _ hd, hw]
      rfl
    · show round _ _ _ _ _ _ _ _ (s42a es n_1 n_2 (((N42a es n_1 n_2) : Nat) : Int)) = _
      rw [round42a, show decide ((((N42a es n_1 n_2) : Nat) : Int) < (n_2 : Int)) = false from not_lt_toNat]
      rfl
  · cases hl
noncomputable def tr42ba (es : List (List AV)) (n_1 : Int) (n_2 : Int) (n_3 : Int) (n_4 : Int) : Option (Ex × St) := cond (inb n_3 es.length) (cond (inb n_4 es.length) (cond (cU (es.getD n_3.toNat []) == cU (es.getD n_4.toNat []) && cV (es.getD n_3.toNat []) == cV (es.getD n_4.toNat [])) (some (.ret, s42ba es 6 n_2 n_3 n_4)) (some (.nrm, s42ba es n_1 n_2 n_3 (IntKind.i64.wrap (n_4 + 1))))) (none)) (none)
theorem round42ba (es : List (List AV)) (n_1 : Int) (n_2 : Int) (n_3 : Int) (n_4 : Int) : round Try.prog Si (ro 42) L42 lp42ba [false, true, false, false, true, false, false, true, false, true, true, true, true] [0, 2, 3, 5, 6] 0 (s42ba es n_1 n_2 n_3 n_4) =
    cond (decide (n_4 < n_3)) (tr42ba es n_1 n_2 n_3 n_4) (some (.ext 4, s42ba es n_1 n_2 n_3 n_4)) := by kernel_rfl
theorem step42ba (es : List (List AV)) (n_1 : Int) (n_2 : Int) (n_3 : Int) (n_4 : Int) (hd : df42ba es n_1 n_2 n_3 n_4 = true) : tr42ba es n_1 n_2 n_3 n_4 = cond (ex42ba es n_1 n_2 n_3 n_4) (some (q42ba es n_1 n_2 n_3 n_4)) (some (.nrm, s42ba es n_1 n_2 n_3 (IntKind.i64.wrap (n_4 + 1)))) := by
  unfold df42ba at hd
  unfold ex42ba q42ba q42ba_0 tr42ba
  generalize (inb n_3 es.length) = t0 at *
  generalize (inb n_4 es.length) = t1 at *
  generalize (cU (es.getD n_3.toNat []) == cU (es.getD n_4.toNat []) && cV (es.getD n_3.toNat []) == cV (es.getD n_4.toNat [])) = t2 at *
  cases t0 <;> cases t1 <;> cases t2 <;> first | rfl | (cases hd)
theorem lok42ba {st : St} {outs : List (Bool × Ex × St)} {e : Ex} {s : St} {lo : Nat} (hlo : lo ≤ st.nx) (hl : l42ba st = some outs) (hch : Chosen outs e s) (hz : lo = 0) :
    ∃ keep nb, lo ≤ nb ∧ LB Try.prog Si (ro 42) L42 lp42ba [false, true, false, false, true, false, false, true, false, true, true, true, true] keep nb st e s := by
  unfold l42ba at hl
  split at hl
  · rename_i es n_1 n_2 n_3 hno
    cases hl
    have hno := normV_norm hno
    refine LB_forG (n := (N42ba es n_1 n_2 n_3)) (g := g42ba es n_1 n_2 n_3) (stI := fun k => st42ba es n_1 n_2 n_3 k) (ex := e42ba es n_1 n_2 n_3) (out := (fun k => ou42ba es n_1 n_2 n_3 k)) (fin := (.ext 4, st42ba es n_1 n_2 n_3 (N42ba es n_1 n_2 n_3))) hno (Nat.le_trans (Nat.le_of_eq hz) (Nat.zero_le _)) hch (fun k => by simp [ou42ba, q42ba, q42ba_0]) (by simp) (fun hg => ?_)
    obtain ⟨hb, hall⟩ := Bool.and_eq_true_iff.1 hg
    have hb := of_decide_eq_true hb
    refine ⟨fun k hk => ?_, ?_⟩
    · have h1 := lt_toNat hk
      have hd := allN_at hall k hk
      have hw := wrap_succ h1 hb
      show round _ _ _ _ _ _ _ _ (s42ba es n_1 n_2 n_3 ((k : Nat) : Int)) = _
      rw [round42ba, show decide _ = true from decide_eq_true h1, cond_true, step42ba _ _ _ _ _ hd, hw]
      rfl
    · show round _ _ _ _ _ _ _ _ (s42ba es n_1 n_2 n_3 (((N42ba es n_1 n_2 n_3) : Nat) : Int)) = _
      rw [round42ba, show decide ((((N42ba es n_1 n_2 n_3) : Nat) : Int) < (n_3 : Int)) = false from not_lt_toNat]
      rfl
  · cases hl
noncomputable def tr42b (es : List (List AV)) (n_1 : Int) (n_2 : Int) (n_3 : Int) : Option (Ex × St) := cond (g42ba es n_1 n_2 n_3 && anyN (e42ba es n_1 n_2 n_3) (N42ba es n_1 n_2 n_3)) (some (.ret, s42b es 6 n_2 n_3)) (cond (g42ba es n_1 n_2 n_3) (some (.nrm, s42b es n_1 n_2 (IntKind.i64.wrap (n_3 + 1)))) (none))
theorem round42b (es : List (List AV)) (n_1 : Int) (n_2 : Int) (n_3 : Int) : round Try.prog Si (ro 42) L42 lp42b [false, true, false, true, true, true, true] [0, 2, 3, 5] 0 (s42b es n_1 n_2 n_3) =
    cond (decide (n_3 < n_2)) (tr42b es n_1 n_2 n_3) (some (.ext 2, s42b es n_1 n_2 n_3)) := by kernel_rfl
theorem step42b (es : List (List AV)) (n_1 : Int) (n_2 : Int) (n_3 : Int) (hd : df42b es n_1 n_2 n_3 = true) : tr42b es n_1 n_2 n_3 = cond (ex42b es n_1 n_2 n_3) (some (q42b es n_1 n_2 n_3)) (some (.nrm, s42b es n_1 n_2 (IntKind.i64.wrap (n_3 + 1)))) := by
  unfold df42b at hd
  unfold ex42b q42b q42b_0 tr42b
  generalize (g42ba es n_1 n_2 n_3 && anyN (e42ba es n_1 n_2 n_3) (N42ba es n_1 n_2 n_3)) = t0 at *
  generalize (g42ba es n_1 n_2 n_3) = t1 at *
  cases t0 <;> cases t1 <;> first | rfl | (cases hd)
theorem lok42b {st : St} {outs : List (Bool × Ex × St)} {e : Ex} {s : St} {lo : Nat} (hlo : lo ≤ st.nx) (hl : l42b st = some outs) (hch : Chosen outs e s) (hz : lo = 0) :
    ∃ keep nb, lo ≤ nb ∧ LB Try.prog Si (ro 42) L42 lp42b [false, true, false, true, true, true, true] keep nb st e s := by
  unfold l42b at hl
  split at hl
  · rename_i es n_1 n_2 hno
    cases hl
    have hno := normV_norm hno
    refine LB_forG (n := (N42b es n_1 n_2)) (g := g42b es n_1 n_2) (stI := fun k => st42b es n_1 n_2 k) (ex := e42b es n_1 n_2) (out := (fun k => ou42b es n_1 n_2 k)) (fin := (.ext 2, st42b es n_1 n_2 (N42b es n_1 n_2))) hno (Nat.le_trans (Nat.le_of_eq hz) (Nat.zero_le _)) hch (fun k => by simp [ou42b, q42b, q42b_0]) (by simp) (fun hg => ?_)
    obtain ⟨hb, hall⟩ := Bool.and_eq_true_iff.1 hg
    have hb := of_decide_eq_true hb
    refine ⟨fun k hk => ?_, ?_⟩
    · have h1 := lt_toNat hk
      have hd := allN_at hall k hk
      have hw := wrap_succ h1 hb
      show round _ _ _ _ _ _ _ _ (s42b es n_1 n_2 ((k : Nat) : Int)) = _
      rw [round42b, show decide _ = true from decide_eq_true h1, cond_true, step42b _ _ _ _ hd, hw]
      rfl
    · show round _ _ _ _ _ _ _ _ (s42b es n_1 n_2 (((N42b es n_1 n_2) : Nat) : Int)) = _
      rw [round42b, show decide ((((N42b es n_1 n_2) : Nat) : Int) < (n_2 : Int)) = false from not_lt_toNat]
      rfl
  · cases hl
noncomputable def tr42ca (es : List (List AV)) (n_1 : Int) (n_2 : Int) (n_3 : Int) (n_4 : Int) (n_5 : Int) (n_6 : Int) (n_7 : Int) (n_8 : Int) (n_9 : Int) (n_10 : Int) (n_11 : Int) : Option (Ex × St) := cond (inb n_5 es.length) (cond (decide (leftI n_6 n_7 n_8 n_9 (cU (es.getD n_5.toNat [])) (cV (es.getD n_5.toNat [])) < 0)) (some (.ret, s42ca es 9 n_2 n_3 n_4 n_5 n_6 n_7 n_8 n_9 n_10 n_11)) (some (.nrm, s42ca es n_1 n_2 n_3 n_4 (IntKind.i64.wrap (n_5 + 1)) n_6 n_7 n_8 n_9 n_10 n_11))) (none)
theorem round42ca (es : List (List AV)) (n_1 : Int) (n_2 : Int) (n_3 : Int) (n_4 : Int) (n_5 : Int) (n_6 : Int) (n_7 : Int) (n_8 : Int) (n_9 : Int) (n_10 : Int) (n_11 : Int) : round Try.prog Si (ro 42) L42 lp42ca [false, true, false, true, false, false, true, false, false, true, false, true, true, true, true, true, true] [0, 2, 3, 7, 8, 9, 10, 11, 12] 24 (s42ca es n_1 n_2 n_3 n_4 n_5 n_6 n_7 n_8 n_9 n_10 n_11) =
    cond (decide (n_5 < n_2)) (tr42ca es n_1 n_2 n_3 n_4 n_5 n_6 n_7 n_8 n_9 n_10 n_11) (some (.ext 8, s42ca es n_1 n_2 n_3 n_4 n_5 n_6 n_7 n_8 n_9 n_10 n_11)) := by kernel_rfl
theorem step42ca (es : List (List AV)) (n_1 : Int) (n_2 : Int) (n_3 : Int) (n_4 : Int) (n_5 : Int) (n_6 : Int) (n_7 : Int) (n_8 : Int) (n_9 : Int) (n_10 : Int) (n_11 : Int) (hd : df42ca es n_1 n_2 n_3 n_4 n_5 n_6 n_7 n_8 n_9 n_10 n_11 = true) : tr42ca es n_1 n_2 n_3 n_4 n_5 n_6 n_7 n_8 n_9 n_10 n_11 = cond (ex42ca es n_1 n_2 n_3 n_4 n_5 n_6 n_7 n_8 n_9 n_10 n_11) (some (q42ca es n_1 n_2 n_3 n_4 n_5 n_6 n_7 n_8 n_9 n_10 n_11)) (some (.nrm, s42ca es n_1 n_2 n_3 n_4 (IntKind.i64.wrap (n_5 + 1)) n_6 n_7 n_8 n_9 n_10 n_11)) := by
  unfold df42ca at hd
  unfold ex42ca q42ca q42ca_0 tr42ca
  generalize (inb n_5 es.length) = t0 at *
  generalize (decide (leftI n_6 n_7 n_8 n_9 (cU (es.getD n_5.toNat [])) (cV (es.getD n_5.toNat [])) < 0)) = t1 at *
  cases t0 <;> cases t1 <;> first | rfl | (cases hd)
theorem lok42ca {st : St} {outs : List (Bool × Ex × St)} {e : Ex} {s : St} {lo : Nat} (hlo : lo ≤ st.nx) (hl : l42ca st = some outs) (hch : Chosen outs e s) (hz : lo = 0) :
    ∃ keep nb, lo ≤ nb ∧ LB Try.prog Si (ro 42) L42 lp42ca [false, true, false, true, false, false, true, false, false, true, false, true, true, true, true, true, true] keep nb st e s := by
  unfold l42ca at hl
  split at hl
  · rename_i es n_1 n_2 n_3 n_4 n_6 n_7 n_8 n_9 n_10 n_11 hno
    cases hl
    have hno := normV_norm hno
    refine LB_forG (n := (N42ca es n_1 n_2 n_3 n_4 n_6 n_7 n_8 n_9 n_10 n_11)) (g := g42ca es n_1 n_2 n_3 n_4 n_6 n_7 n_8 n_9 n_10 n_11) (stI := fun k => st42ca es n_1 n_2 n_3 n_4 n_6 n_7 n_8 n_9 n_10 n_11 k) (ex := e42ca es n_1 n_2 n_3 n_4 n_6 n_7 n_8 n_9 n_10 n_11) (out := (fun k => ou42ca es n_1 n_2 n_3 n_4 n_6 n_7 n_8 n_9 n_10 n_11 k)) (fin := (.ext 8, st42ca es n_1 n_2 n_3 n_4 n_6 n_7 n_8 n_9 n_10 n_11 (N42ca es n_1 n_2 n_3 n_4 n_6 n_7 n_8 n_9 n_10 n_11))) hno (Nat.le_trans (Nat.le_of_eq hz) (Nat.zero_le _)) hch (fun k => by simp [ou42ca, q42ca, q42ca_0]) (by simp) (fun hg => ?_)
    obtain ⟨hb, hall⟩ := Bool.and_eq_true_iff.1 hg
    have hb := of_decide_eq_true hb
    refine ⟨fun k hk => ?_, ?_⟩
    · have h1 := lt_toNat hk
      have hd := allN_at hall k hk
      have hw := wrap_succ h1 hb
      show round _ _ _ _ _ _ _ _ (s42ca es n_1 n_2 n_3 n_4 ((k : Nat) : Int) n_6 n_7 n_8 n_9 n_10 n_11) = _
      rw [round42ca, show decide _ = true from decide_eq_true h1, cond_true, step42ca _ _ _ _ _ _ _ _ _ _ _ _ hd, hw]
      rfl
    · show round _ _ _ _ _ _ _ _ (s42ca es n_1 n_2 n_3 n_4 (((N42ca es n_1 n_2 n_3 n_4 n_6 n_7 n_8 n_9 n_10 n_11) : Nat) : Int) n_6 n_7 n_8 n_9 n_10 n_11) = _
      rw [round42ca, show decide ((((N42ca es n_1 n_2 n_3 n_4 n_6 n_7 n_8 n_9 n_10 n_11) : Nat) : Int) < (n_2 : Int)) = false from not_lt_toNat]
      rfl
  · cases hl
noncomputable def tr42c (es : List (List AV)) (n_1 : Int) (n_2 : Int) (n_3 : Int) (n_4 : Int) : Option (Ex × St) := cond (inb n_4 es.length) (cond (decide (n_2 = 0)) (none) (cond (inb ((IntKind.i64.wrap (n_4 + 1)).tmod n_2) es.length) (cond (decide (n_2 = 0)) (none) (cond (inb ((IntKind.i64.wrap (n_4 + 2)).tmod n_2) es.length) (cond (g42ca es n_1 n_2 n_3 n_4 (cU (es.getD n_4.toNat [])) (cV (es.getD n_4.toNat [])) (cU (es.getD ((IntKind.i64.wrap (n_4 + 1)).tmod n_2).toNat [])) (cV (es.getD ((IntKind.i64.wrap (n_4 + 1)).tmod n_2).toNat [])) (cU (es.getD ((IntKind.i64.wrap (n_4 + 2)).tmod n_2).toNat [])) (cV (es.getD ((IntKind.i64.wrap (n_4 + 2)).tmod n_2).toNat [])) && anyN (e42ca es n_1 n_2 n_3 n_4 (cU (es.getD n_4.toNat [])) (cV (es.getD n_4.toNat [])) (cU (es.getD ((IntKind.i64.wrap (n_4 + 1)).tmod n_2).toNat [])) (cV (es.getD ((IntKind.i64.wrap (n_4 + 1)).tmod n_2).toNat [])) (cU (es.getD ((IntKind.i64.wrap (n_4 + 2)).tmod n_2).toNat [])) (cV (es.getD ((IntKind.i64.wrap (n_4 + 2)).tmod n_2).toNat []))) (N42ca es n_1 n_2 n_3 n_4 (cU (es.getD n_4.toNat [])) (cV (es.getD n_4.toNat [])) (cU (es.getD ((IntKind.i64.wrap (n_4 + 1)).tmod n_2).toNat [])) (cV (es.getD ((IntKind.i64.wrap (n_4 + 1)).tmod n_2).toNat [])) (cU (es.getD ((IntKind.i64.wrap (n_4 + 2)).tmod n_2).toNat [])) (cV (es.getD ((IntKind.i64.wrap (n_4 + 2)).tmod n_2).toNat [])))) (some (.ret, s42c es 9 n_2 n_3 n_4)) (cond (g42ca es n_1 n_2 n_3 n_4 (cU (es.getD n_4.toNat [])) (cV (es.getD n_4.toNat [])) (cU (es.getD ((IntKind.i64.wrap (n_4 + 1)).tmod n_2).toNat [])) (cV (es.getD ((IntKind.i64.wrap (n_4 + 1)).tmod n_2).toNat [])) (cU (es.getD ((IntKind.i64.wrap (n_4 + 2)).tmod n_2).toNat [])) (cV (es.getD ((IntKind.i64.wrap (n_4 + 2)).tmod n_2).toNat []))) (cond (leftI (cU (es.getD n_4.toNat [])) (cV (es.getD n_4.toNat [])) (cU (es.getD ((IntKind.i64.wrap (n_4 + 1)).tmod n_2).toNat [])) (cV (es.getD ((IntKind.i64.wrap (n_4 + 1)).tmod n_2).toNat [])) (cU (es.getD ((IntKind.i64.wrap (n_4 + 2)).tmod n_2).toNat [])) (cV (es.getD ((IntKind.i64.wrap (n_4 + 2)).tmod n_2).toNat [])) == 0) (cond (decide (IntKind.i64.wrap (IntKind.i64.wrap (IntKind.i64.wrap (cU (es.getD ((IntKind.i64.wrap (n_4 + 1)).tmod n_2).toNat []) - cU (es.getD n_4.toNat [])) * IntKind.i64.wrap (cU (es.getD ((IntKind.i64.wrap (n_4 + 2)).tmod n_2).toNat []) - cU (es.getD ((IntKind.i64.wrap (n_4 + 1)).tmod n_2).toNat []))) + IntKind.i64.wrap (IntKind.i64.wrap (cV (es.getD ((IntKind.i64.wrap (n_4 + 1)).tmod n_2).toNat []) - cV (es.getD n_4.toNat [])) * IntKind.i64.wrap (cV (es.getD ((IntKind.i64.wrap (n_4 + 2)).tmod n_2).toNat []) - cV (es.getD ((IntKind.i64.wrap (n_4 + 1)).tmod n_2).toNat [])))) < 0)) (some (.ret, s42c es 9 n_2 n_3 n_4)) (cond (inb 0 es.length) (some (.nrm, s42c es n_1 n_2 (IntKind.i64.wrap (n_3 + leftI (cU (es.getD (Int.toNat 0) [])) (cV (es.getD (Int.toNat 0) [])) (cU (es.getD n_4.toNat [])) (cV (es.getD n_4.toNat [])) (cU (es.getD ((IntKind.i64.wrap (n_4 + 1)).tmod n_2).toNat [])) (cV (es.getD ((IntKind.i64.wrap (n_4 + 1)).tmod n_2).toNat [])))) (IntKind.i64.wrap (n_4 + 1)))) (none))) (cond (inb 0 es.length) (some (.nrm, s42c es n_1 n_2 (IntKind.i64.wrap (n_3 + leftI (cU (es.getD (Int.toNat 0) [])) (cV (es.getD (Int.toNat 0) [])) (cU (es.getD n_4.toNat [])) (cV (es.getD n_4.toNat [])) (cU (es.getD ((IntKind.i64.wrap (n_4 + 1)).tmod n_2).toNat [])) (cV (es.getD ((IntKind.i64.wrap (n_4 + 1)).tmod n_2).toNat [])))) (IntKind.i64.wrap (n_4 + 1)))) (none))) (none))) (none))) (none))) (none)
theorem round42c (es : List (List AV)) (n_1 : Int) (n_2 : Int) (n_3 : Int) (n_4 : Int) : round Try.prog Si (ro 42) L42 lp42c [false, true, false, true, true, true, true, true, true] [0, 2, 3, 7, 8] 0 (s42c es n_1 n_2 n_3 n_4) =
    cond (decide (n_4 < n_2)) (tr42c es n_1 n_2 n_3 n_4) (some (.ext 6, s42c es n_1 n_2 n_3 n_4)) := by kernel_rfl
theorem step42c (es : List (List AV)) (n_1 : Int) (n_2 : Int) (n_3 : Int) (n_4 : Int) (hd : df42c es n_1 n_2 n_3 n_4 = true) : tr42c es n_1 n_2 n_3 n_4 = cond (ex42c es n_1 n_2 n_3 n_4) (some (q42c es n_1 n_2 n_3 n_4)) (some (.nrm, s42c es n_1 n_2 (nx42c_0 es n_1 n_2 n_3 n_4) (IntKind.i64.wrap (n_4 + 1)))) := by
  unfold df42c at hd
  unfold ex42c nx42c_0 q42c q42c_0 tr42c
  generalize (inb n_4 es.length) = t0 at *
  generalize (decide (n_2 = 0)) = t1 at *
  generalize (inb ((IntKind.i64.wrap (n_4 + 1)).tmod n_2) es.length) = t2 at *
  generalize (inb ((IntKind.i64.wrap (n_4 + 2)).tmod n_2) es.length) = t3 at *
  generalize (g42ca es n_1 n_2 n_3 n_4 (cU (es.getD n_4.toNat [])) (cV (es.getD n_4.toNat [])) (cU (es.getD ((IntKind.i64.wrap (n_4 + 1)).tmod n_2).toNat [])) (cV (es.getD ((IntKind.i64.wrap (n_4 + 1)).tmod n_2).toNat [])) (cU (es.getD ((IntKind.i64.wrap (n_4 + 2)).tmod n_2).toNat [])) (cV (es.getD ((IntKind.i64.wrap (n_4 + 2)).tmod n_2).toNat [])) && anyN (e42ca es n_1 n_2 n_3 n_4 (cU (es.getD n_4.toNat [])) (cV (es.getD n_4.toNat [])) (cU (es.getD ((IntKind.i64.wrap (n_4 + 1)).tmod n_2).toNat [])) (cV (es.getD ((IntKind.i64.wrap (n_4 + 1)).tmod n_2).toNat [])) (cU (es.getD ((IntKind.i64.wrap (n_4 + 2)).tmod n_2).toNat [])) (cV (es.getD ((IntKind.i64.wrap (n_4 + 2)).tmod n_2).toNat []))) (N42ca es n_1 n_2 n_3 n_4 (cU (es.getD n_4.toNat [])) (cV (es.getD n_4.toNat [])) (cU (es.getD ((IntKind.i64.wrap (n_4 + 1)).tmod n_2).toNat [])) (cV (es.getD ((IntKind.i64.wrap (n_4 + 1)).tmod n_2).toNat [])) (cU (es.getD ((IntKind.i64.wrap (n_4 + 2)).tmod n_2).toNat [])) (cV (es.getD ((IntKind.i64.wrap (n_4 + 2)).tmod n_2).toNat [])))) = t4 at *
  generalize (g42ca es n_1 n_2 n_3 n_4 (cU (es.getD n_4.toNat [])) (cV (es.getD n_4.toNat [])) (cU (es.getD ((IntKind.i64.wrap (n_4 + 1)).tmod n_2).toNat [])) (cV (es.getD ((IntKind.i64.wrap (n_4 + 1)).tmod n_2).toNat [])) (cU (es.getD ((IntKind.i64.wrap (n_4 + 2)).tmod n_2).toNat [])) (cV (es.getD ((IntKind.i64.wrap (n_4 + 2)).tmod n_2).toNat []))) = t5 at *
  generalize (leftI (cU (es.getD n_4.toNat [])) (cV (es.getD n_4.toNat [])) (cU (es.getD ((IntKind.i64.wrap (n_4 + 1)).tmod n_2).toNat [])) (cV (es.getD ((IntKind.i64.wrap (n_4 + 1)).tmod n_2).toNat [])) (cU (es.getD ((IntKind.i64.wrap (n_4 + 2)).tmod n_2).toNat [])) (cV (es.getD ((IntKind.i64.wrap (n_4 + 2)).tmod n_2).toNat [])) == 0) = t6 at *
  generalize (decide (IntKind.i64.wrap (IntKind.i64.wrap (IntKind.i64.wrap (cU (es.getD ((IntKind.i64.wrap (n_4 + 1)).tmod n_2).toNat []) - cU (es.getD n_4.toNat [])) * IntKind.i64.wrap (cU (es.getD ((IntKind.i64.wrap (n_4 + 2)).tmod n_2).toNat []) - cU (es.getD ((IntKind.i64.wrap (n_4 + 1)).tmod n_2).toNat []))) + IntKind.i64.wrap (IntKind.i64.wrap (cV (es.getD ((IntKind.i64.wrap (n_4 + 1)).tmod n_2).toNat []) - cV (es.getD n_4.toNat [])) * IntKind.i64.wrap (cV (es.getD ((IntKind.i64.wrap (n_4 + 2)).tmod n_2).toNat []) - cV (es.getD ((IntKind.i64.wrap (n_4 + 1)).tmod n_2).toNat [])))) < 0)) = t7 at *
  generalize (inb 0 es.length) = t8 at *
  cases t0 <;> cases t1 <;> cases t2 <;> cases t3 <;> cases t4 <;> cases t5 <;> cases t6 <;> cases t7 <;> cases t8 <;> first | rfl | (cases hd)
theorem lok42c {st : St} {outs : List (Bool × Ex × St)} {e : Ex} {s : St} {lo : Nat} (hlo : lo ≤ st.nx) (hl : l42c st = some outs) (hch : Chosen outs e s) (hz : lo = 0) :
    ∃ keep nb, lo ≤ nb ∧ LB Try.prog Si (ro 42) L42 lp42c [false, true, false, true, true, true, true, true, true] keep nb st e s := by
  unfold l42c at hl
  split at hl
  · rename_i es n_1 n_2 n_3 hno
    cases hl
    have hno := normV_norm hno
    refine LB_forG (n := (N42c es n_1 n_2 n_3)) (g := g42c es n_1 n_2 n_3) (stI := fun k => st42c es n_1 n_2 n_3 k) (ex := e42c es n_1 n_2 n_3) (out := (fun k => ou42c es n_1 n_2 n_3 k)) (fin := (.ext 6, st42c es n_1 n_2 n_3 (N42c es n_1 n_2 n_3))) hno (Nat.le_trans (Nat.le_of_eq hz) (Nat.zero_le _)) hch (fun k => by simp [ou42c, q42c, q42c_0]) (by simp) (fun hg => ?_)
    obtain ⟨hb, hall⟩ := Bool.and_eq_true_iff.1 hg
    have hb := of_decide_eq_true hb
    refine ⟨fun k hk => ?_, ?_⟩
    · have h1 := lt_toNat hk
      have hd := allN_at hall k hk
      have hw := wrap_succ h1 hb
      show round _ _ _ _ _ _ _ _ (s42c es n_1 n_2 (a42c es n_1 n_2 n_3 k) ((k : Nat) : Int)) = _
      rw [round42c, show decide _ = true from decide_eq_true h1, cond_true, step42c _ _ _ _ _ hd, hw]
      rfl
    · show round _ _ _ _ _ _ _ _ (s42c es n_1 n_2 (a42c es n_1 n_2 n_3 ((N42c es n_1 n_2 n_3))) (((N42c es n_1 n_2 n_3) : Nat) : Int)) = _
      rw [round42c, show decide ((((N42c es n_1 n_2 n_3) : Nat) : Int) < (n_2 : Int)) = false from not_lt_toNat]
      rfl
  · cases hl
theorem L42_ok (q : Pl) (c : Code) (hq : locate c42 q.reverse = some (.loop c)) (st : St) (outs : List (Bool × Ex × St)) (e : Ex) (s : St) (hl : L42 q st = some outs) (hch : Chosen outs e s) :
    ∃ keep nb, LB Try.prog Si (ro 42) L42 c q keep nb st e s := by
  unfold L42 at hl
  split at hl
  · have : locate c42 ([false, true, false, true, true, true] : Pl).reverse = some (.loop lp42a) := by kernel_rfl
    rw [this] at hq
    cases hq
    obtain ⟨keep, nb, _, h⟩ := lok42a (lo := 0) (Nat.zero_le _) hl hch rfl
    exact ⟨keep, nb, h⟩
  · have : locate c42 ([false, true, false, false, true, false, false, true, false, true, true, true, true] : Pl).reverse = some (.loop lp42ba) := by kernel_rfl
    rw [this] at hq
    cases hq
    obtain ⟨keep, nb, _, h⟩ := lok42ba (lo := 0) (Nat.zero_le _) hl hch rfl
    exact ⟨keep, nb, h⟩
  · have : locate c42 ([false, true, false, true, true, true, true] : Pl).reverse = some (.loop lp42b) := by kernel_rfl
    rw [this] at hq
    cases hq
    obtain ⟨keep, nb, _, h⟩ := lok42b (lo := 0) (Nat.zero_le _) hl hch rfl
    exact ⟨keep, nb, h⟩
  · have : locate c42 ([false, true, false, true, false, false, true, false, false, true, false, true, true, true, true, true, true] : Pl).reverse = some (.loop lp42ca) := by kernel_rfl
    rw [this] at hq
    cases hq
    obtain ⟨keep, nb, _, h⟩ := lok42ca (lo := 0) (Nat.zero_le _) hl hch rfl
    exact ⟨keep, nb, h⟩
  · have : locate c42 ([false, true, false, true, true, true, true, true, true] : Pl).reverse = some (.loop lp42c) := by kernel_rfl
    rw [this] at hq
    cases hq
    obtain ⟨keep, nb, _, h⟩ := lok42c (lo := 0) (Nat.zero_le _) hl hch rfl
    exact ⟨keep, nb, h⟩
  · cases hl
theorem eq42 (es : List (List AV)) : evF Try.prog Si (ro 42) L42 Try.f42 [.rs 32 es] =
    cond (!inB (↑es.length : Int) 3 12) (some (.i .i64 1)) (cond (g42a es 0 (↑es.length : Int) && anyN (e42a es 0 (↑es.length : Int)) (N42a es 0 (↑es.length : Int))) (some (.i .i64 1)) (cond (g42a es 0 (↑es.length : Int)) (cond (g42b es 0 (↑es.length : Int) && anyN (e42b es 0 (↑es.length : Int)) (N42b es 0 (↑es.length : Int))) (some (.i .i64 6)) (cond (g42b es 0 (↑es.length : Int)) (cond (g42c es 0 (↑es.length : Int) 0 && anyN (e42c es 0 (↑es.length : Int) 0) (N42c es 0 (↑es.length : Int) 0)) (some (.i .i64 9)) (cond (g42c es 0 (↑es.length : Int) 0) (cond (decide (a42c es 0 (↑es.length : Int) 0 (N42c es 0 (↑es.length : Int) 0) ≤ 0)) (some (.i .i64 9)) (some (.i .i64 0))) (none))) (none))) (none))) := by kernel_rfl
end Go.Proofs.Yteclfchlejocmaa
